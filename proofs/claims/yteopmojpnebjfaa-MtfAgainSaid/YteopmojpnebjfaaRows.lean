/-
  No cell of these rows narrows 'for every input' (looked for: loops, veiled, ifaces, maps, wideKeys, modest, calm, conditions, laid).
  DERIVED. THE GIVEN ROWS OF THIS SEAT. 4 by the template 'for every input the law returns true; each argument reads behind the call as it read before'; 0 by the template 'total and deterministic' (their statements: YteopmojpnebjfaaTotals.lean).
  GIVEN WITH THE SEED: the statements are not yours to turn. If you find one false, say at which input.
  Laid BY PROGRAM, IN A SANDBOX (cutbox-rows.mjs): the forced cells as the released guide's own fill.sh prints them over the translation d8e4c8b93f20b95f… (all of the seat's roots in one cut). By AI agents, Wed Nov 11 2026. No macro, syntax, notation, axiom, sorry.
-/
import Derived.Test.YteopmojpnebjfaaChecked
import GoSem.Claim
import GoSem.ClaimJoined
import GoSem.ClaimMapViews
import Derived.JoinedTies
import Derived.KernelRfl
namespace Go.Proofs.Yteopmojpnebjfaa
/- THE CELL 'sum', in the pinned program and in every row, IS THE sha256 OF THE DUMP (.gsa) THAT YteopmojpnebjfaaProg.lean LOADS. Nothing in Lean hashes anything: it is a label: what it is worth is what the hold of that sum in a sandbox is worth. -/
noncomputable def Try.pinned : Pinned := { name := "yteopmojpnebjfaa", sum := "d8e4c8b93f20b95f87f379884c8666659b20cf8b3373773e7cf7f4598f5cdfaa", checked := Try.checked }
namespace Rows
def none {H : Type} : Left H := { results := [], args := [] }

/-- 'wringerlaw18.MtfDoes': WHATEVER THE INPUT: true; the input reads as it did. -/
def mtfDoesSpec : ChangeSpec := { name := "mtfDoes", fn := fun _ => fun
  | [d1, d2, d3] => { results := [.lit (.bool true)], args := [d1, d2, d3] }
  | _ => none }
def mtfDoesRow : OpenClaim := { program := "yteopmojpnebjfaa", sum := "d8e4c8b93f20b95f87f379884c8666659b20cf8b3373773e7cf7f4598f5cdfaa", func := "wringer/wringerlaw18.MtfDoes", spec := "mtfDoes", inPlace := ["internal/abi.NoEscape", "internal/bytealg.IndexByte"], unfollowed := true, recurses := true, apart := false }
def MtfDoesSaid : Prop := mtfDoesRow.holds Try.pinned (OpenSpec.ofChange mtfDoesSpec)

/-- ITS FALSE NEIGHBOUR: 'it returns false'. Refute it at one input. -/
def mtfDoesWrong : ChangeSpec := { name := "mtfDoes", fn := fun _ => fun
  | [d1, d2, d3] => { results := [.lit (.bool false)], args := [d1, d2, d3] }
  | _ => none }
def MtfDoesWrongFalsely : Prop := mtfDoesRow.holds Try.pinned (OpenSpec.ofChange mtfDoesWrong)

/-- 'wringerlaw18.MtfBack': WHATEVER THE INPUT: true; the input reads as it did. -/
def mtfBackSpec : ChangeSpec := { name := "mtfBack", fn := fun _ => fun
  | [d1, d2] => { results := [.lit (.bool true)], args := [d1, d2] }
  | _ => none }
def mtfBackRow : OpenClaim := { program := "yteopmojpnebjfaa", sum := "d8e4c8b93f20b95f87f379884c8666659b20cf8b3373773e7cf7f4598f5cdfaa", func := "wringer/wringerlaw18.MtfBack", spec := "mtfBack", inPlace := ["internal/abi.NoEscape", "internal/bytealg.IndexByte"], unfollowed := true, recurses := true, apart := false }
def MtfBackSaid : Prop := mtfBackRow.holds Try.pinned (OpenSpec.ofChange mtfBackSpec)

/-- ITS FALSE NEIGHBOUR: 'it returns false'. Refute it at one input. -/
def mtfBackWrong : ChangeSpec := { name := "mtfBack", fn := fun _ => fun
  | [d1, d2] => { results := [.lit (.bool false)], args := [d1, d2] }
  | _ => none }
def MtfBackWrongFalsely : Prop := mtfBackRow.holds Try.pinned (OpenSpec.ofChange mtfBackWrong)

/-- 'wringerlaw18.MtfParts': WHATEVER THE INPUT: true; the input reads as it did. -/
def mtfPartsSpec : ChangeSpec := { name := "mtfParts", fn := fun _ => fun
  | [d1, d2, d3] => { results := [.lit (.bool true)], args := [d1, d2, d3] }
  | _ => none }
def mtfPartsRow : OpenClaim := { program := "yteopmojpnebjfaa", sum := "d8e4c8b93f20b95f87f379884c8666659b20cf8b3373773e7cf7f4598f5cdfaa", func := "wringer/wringerlaw18.MtfParts", spec := "mtfParts", inPlace := ["internal/abi.NoEscape", "internal/bytealg.IndexByte"], unfollowed := true, recurses := true, apart := false }
def MtfPartsSaid : Prop := mtfPartsRow.holds Try.pinned (OpenSpec.ofChange mtfPartsSpec)

/-- ITS FALSE NEIGHBOUR: 'it returns false'. Refute it at one input. -/
def mtfPartsWrong : ChangeSpec := { name := "mtfParts", fn := fun _ => fun
  | [d1, d2, d3] => { results := [.lit (.bool false)], args := [d1, d2, d3] }
  | _ => none }
def MtfPartsWrongFalsely : Prop := mtfPartsRow.holds Try.pinned (OpenSpec.ofChange mtfPartsWrong)

/-- 'wringerlaw18.MtfAgain': WHATEVER THE INPUT: true; the input reads as it did. -/
def mtfAgainSpec : ChangeSpec := { name := "mtfAgain", fn := fun _ => fun
  | [d1, d2] => { results := [.lit (.bool true)], args := [d1, d2] }
  | _ => none }
def mtfAgainRow : OpenClaim := { program := "yteopmojpnebjfaa", sum := "d8e4c8b93f20b95f87f379884c8666659b20cf8b3373773e7cf7f4598f5cdfaa", func := "wringer/wringerlaw18.MtfAgain", spec := "mtfAgain", inPlace := ["internal/abi.NoEscape", "internal/bytealg.IndexByte"], unfollowed := true, recurses := true, apart := false }
def MtfAgainSaid : Prop := mtfAgainRow.holds Try.pinned (OpenSpec.ofChange mtfAgainSpec)

/-- ITS FALSE NEIGHBOUR: 'it returns false'. Refute it at one input. -/
def mtfAgainWrong : ChangeSpec := { name := "mtfAgain", fn := fun _ => fun
  | [d1, d2] => { results := [.lit (.bool false)], args := [d1, d2] }
  | _ => none }
def MtfAgainWrongFalsely : Prop := mtfAgainRow.holds Try.pinned (OpenSpec.ofChange mtfAgainWrong)

/- THE SECOND FORM. 'bulk': how many values and letters a reading holds, each counted each time it is reached (what is shared counts as often as it is met; a slice's spare places count too). A statement '..UptoSaid' is the law's where the arguments, and the package variables that the reading takes, are together of bulk at most 1048576: NARROWER than '..Said'. Prove '..Said' where nothing that the law and all that it calls make is longer than what came in: it says more and counts as full. Else prove '..UptoSaid'. A law counts once. -/
mutual
def uptoBulk {H : Type} : DataW H → Nat
  | .lit (.string bytes) => bytes.length + 1
  | .lit _ => 1
  | .nil => 1
  | .ptr d => uptoBulk d + 1
  | .slice elems spare => uptoBulkAll elems + uptoBulkAll spare + 1
  | .agg parts => uptoBulkAll parts + 1
  | .iface _ d => uptoBulk d + 1
  | .map entries => uptoBulkEntries entries + 1
  | .held _ => 1
def uptoBulkAll {H : Type} : List (DataW H) → Nat
  | [] => 0
  | d :: r => uptoBulk d + uptoBulkAll r
def uptoBulkEntries {H : Type} : List (Lit × DataW H) → Nat
  | [] => 0
  | x :: r => uptoBulkEntry x + uptoBulkEntries r
def uptoBulkEntry {H : Type} : Lit × DataW H → Nat
  | (.string bytes, d) => bytes.length + uptoBulk d + 1
  | (_, d) => uptoBulk d + 1
 end
def uptoSmall : (H : Type) → List (DataW H) → Bool := fun _ ds => decide (uptoBulkAll ds ≤ 1048576)
def OpenSpec.upto (s : _root_.Go.ChangeSpec) : _root_.Go.OpenSpec := { _root_.Go.OpenSpec.ofChange s with cond := some uptoSmall }

/-- 'wringerlaw18.MtfDoes', WHERE WHAT IT READS IS OF BULK AT MOST 1048576: true; the input reads as it did. -/
def mtfDoesUptoRow : OpenClaim := { program := "yteopmojpnebjfaa", sum := "d8e4c8b93f20b95f87f379884c8666659b20cf8b3373773e7cf7f4598f5cdfaa", func := "wringer/wringerlaw18.MtfDoes", spec := "mtfDoes", inPlace := ["internal/abi.NoEscape", "internal/bytealg.IndexByte"], unfollowed := true, recurses := true, apart := false, narrowed := true }
def MtfDoesUptoSaid : Prop := mtfDoesUptoRow.holds Try.pinned (OpenSpec.upto mtfDoesSpec)

/-- 'wringerlaw18.MtfBack', WHERE WHAT IT READS IS OF BULK AT MOST 1048576: true; the input reads as it did. -/
def mtfBackUptoRow : OpenClaim := { program := "yteopmojpnebjfaa", sum := "d8e4c8b93f20b95f87f379884c8666659b20cf8b3373773e7cf7f4598f5cdfaa", func := "wringer/wringerlaw18.MtfBack", spec := "mtfBack", inPlace := ["internal/abi.NoEscape", "internal/bytealg.IndexByte"], unfollowed := true, recurses := true, apart := false, narrowed := true }
def MtfBackUptoSaid : Prop := mtfBackUptoRow.holds Try.pinned (OpenSpec.upto mtfBackSpec)

/-- 'wringerlaw18.MtfParts', WHERE WHAT IT READS IS OF BULK AT MOST 1048576: true; the input reads as it did. -/
def mtfPartsUptoRow : OpenClaim := { program := "yteopmojpnebjfaa", sum := "d8e4c8b93f20b95f87f379884c8666659b20cf8b3373773e7cf7f4598f5cdfaa", func := "wringer/wringerlaw18.MtfParts", spec := "mtfParts", inPlace := ["internal/abi.NoEscape", "internal/bytealg.IndexByte"], unfollowed := true, recurses := true, apart := false, narrowed := true }
def MtfPartsUptoSaid : Prop := mtfPartsUptoRow.holds Try.pinned (OpenSpec.upto mtfPartsSpec)

/-- 'wringerlaw18.MtfAgain', WHERE WHAT IT READS IS OF BULK AT MOST 1048576: true; the input reads as it did. -/
def mtfAgainUptoRow : OpenClaim := { program := "yteopmojpnebjfaa", sum := "d8e4c8b93f20b95f87f379884c8666659b20cf8b3373773e7cf7f4598f5cdfaa", func := "wringer/wringerlaw18.MtfAgain", spec := "mtfAgain", inPlace := ["internal/abi.NoEscape", "internal/bytealg.IndexByte"], unfollowed := true, recurses := true, apart := false, narrowed := true }
def MtfAgainUptoSaid : Prop := mtfAgainUptoRow.holds Try.pinned (OpenSpec.upto mtfAgainSpec)

end Rows
end Go.Proofs.Yteopmojpnebjfaa
