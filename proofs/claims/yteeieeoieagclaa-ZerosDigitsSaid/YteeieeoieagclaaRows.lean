/-
  No cell of these rows narrows 'for every input' (looked for: loops, veiled, ifaces, maps, wideKeys, modest, calm, conditions, laid).
  DERIVED. THE GIVEN ROWS OF THIS SEAT. 4 by the template 'for every input the law returns true; each argument reads behind the call as it read before'; 0 by the template 'total and deterministic' (their statements: YteeieeoieagclaaTotals.lean).
  GIVEN WITH THE SEED: the statements are not yours to turn. If you find one false, say at which input.
  Laid BY PROGRAM, IN A SANDBOX (cutbox-rows.mjs): the forced cells as the released guide's own fill.sh prints them over the translation 5828b2f3adb10528… (all of the seat's roots in one cut). By AI agents, Wed Nov 11 2026. No macro, syntax, notation, axiom, sorry.
-/
import Derived.Test.YteeieeoieagclaaChecked
import GoSem.Claim
import GoSem.ClaimJoined
import GoSem.ClaimMapViews
import Derived.JoinedTies
import Derived.KernelRfl
namespace Go.Proofs.Yteeieeoieagclaa
/- THE CELL 'sum', in the pinned program and in every row, IS THE sha256 OF THE DUMP (.gsa) THAT YteeieeoieagclaaProg.lean LOADS. Nothing in Lean hashes anything: it is a label: what it is worth is what the hold of that sum in a sandbox is worth. -/
noncomputable def Try.pinned : Pinned := { name := "yteeieeoieagclaa", sum := "5828b2f3adb1052871e2d7503a5ae331a0c64eee5a9a04df2a2c9d5f9edc1619", checked := Try.checked }
namespace Rows
def none {H : Type} : Left H := { results := [], args := [] }

/-- 'wringerlaw19.ZerosCodes': WHATEVER THE INPUT: true; the input reads as it did. -/
def zerosCodesSpec : ChangeSpec := { name := "zerosCodes", fn := fun _ => fun
  | [d1, d2] => { results := [.lit (.bool true)], args := [d1, d2] }
  | _ => none }
def zerosCodesRow : OpenClaim := { program := "yteeieeoieagclaa", sum := "5828b2f3adb1052871e2d7503a5ae331a0c64eee5a9a04df2a2c9d5f9edc1619", func := "wringer/wringerlaw19.ZerosCodes", spec := "zerosCodes", unfollowed := true, recurses := true, apart := false }
def ZerosCodesSaid : Prop := zerosCodesRow.holds Try.pinned (OpenSpec.ofChange zerosCodesSpec)

/-- ITS FALSE NEIGHBOUR: 'it returns false'. Refute it at one input. -/
def zerosCodesWrong : ChangeSpec := { name := "zerosCodes", fn := fun _ => fun
  | [d1, d2] => { results := [.lit (.bool false)], args := [d1, d2] }
  | _ => none }
def ZerosCodesWrongFalsely : Prop := zerosCodesRow.holds Try.pinned (OpenSpec.ofChange zerosCodesWrong)

/-- 'wringerlaw19.ZerosDigits': WHATEVER THE INPUT: true; the input reads as it did. -/
def zerosDigitsSpec : ChangeSpec := { name := "zerosDigits", fn := fun _ => fun
  | [d1, d2] => { results := [.lit (.bool true)], args := [d1, d2] }
  | _ => none }
def zerosDigitsRow : OpenClaim := { program := "yteeieeoieagclaa", sum := "5828b2f3adb1052871e2d7503a5ae331a0c64eee5a9a04df2a2c9d5f9edc1619", func := "wringer/wringerlaw19.ZerosDigits", spec := "zerosDigits", unfollowed := true, recurses := true, apart := false }
def ZerosDigitsSaid : Prop := zerosDigitsRow.holds Try.pinned (OpenSpec.ofChange zerosDigitsSpec)

/-- ITS FALSE NEIGHBOUR: 'it returns false'. Refute it at one input. -/
def zerosDigitsWrong : ChangeSpec := { name := "zerosDigits", fn := fun _ => fun
  | [d1, d2] => { results := [.lit (.bool false)], args := [d1, d2] }
  | _ => none }
def ZerosDigitsWrongFalsely : Prop := zerosDigitsRow.holds Try.pinned (OpenSpec.ofChange zerosDigitsWrong)

/-- 'wringerlaw19.ZerosBack': WHATEVER THE INPUT: true; the input reads as it did. -/
def zerosBackSpec : ChangeSpec := { name := "zerosBack", fn := fun _ => fun
  | [d1, d2] => { results := [.lit (.bool true)], args := [d1, d2] }
  | _ => none }
def zerosBackRow : OpenClaim := { program := "yteeieeoieagclaa", sum := "5828b2f3adb1052871e2d7503a5ae331a0c64eee5a9a04df2a2c9d5f9edc1619", func := "wringer/wringerlaw19.ZerosBack", spec := "zerosBack", unfollowed := true, recurses := true, apart := false }
def ZerosBackSaid : Prop := zerosBackRow.holds Try.pinned (OpenSpec.ofChange zerosBackSpec)

/-- ITS FALSE NEIGHBOUR: 'it returns false'. Refute it at one input. -/
def zerosBackWrong : ChangeSpec := { name := "zerosBack", fn := fun _ => fun
  | [d1, d2] => { results := [.lit (.bool false)], args := [d1, d2] }
  | _ => none }
def ZerosBackWrongFalsely : Prop := zerosBackRow.holds Try.pinned (OpenSpec.ofChange zerosBackWrong)

/-- 'wringerlaw19.ZerosRuns': WHATEVER THE INPUT: true; the input reads as it did. -/
def zerosRunsSpec : ChangeSpec := { name := "zerosRuns", fn := fun _ => fun
  | [d1, d2] => { results := [.lit (.bool true)], args := [d1, d2] }
  | _ => none }
def zerosRunsRow : OpenClaim := { program := "yteeieeoieagclaa", sum := "5828b2f3adb1052871e2d7503a5ae331a0c64eee5a9a04df2a2c9d5f9edc1619", func := "wringer/wringerlaw19.ZerosRuns", spec := "zerosRuns", unfollowed := true, recurses := true, apart := false }
def ZerosRunsSaid : Prop := zerosRunsRow.holds Try.pinned (OpenSpec.ofChange zerosRunsSpec)

/-- ITS FALSE NEIGHBOUR: 'it returns false'. Refute it at one input. -/
def zerosRunsWrong : ChangeSpec := { name := "zerosRuns", fn := fun _ => fun
  | [d1, d2] => { results := [.lit (.bool false)], args := [d1, d2] }
  | _ => none }
def ZerosRunsWrongFalsely : Prop := zerosRunsRow.holds Try.pinned (OpenSpec.ofChange zerosRunsWrong)

/- THE SECOND FORM. 'bulk': how many values and letters a reading holds, each counted each time it is reached (what is shared counts as often as it is met; a slice's spare places count too). A statement '..UptoSaid' is the law's where the arguments, and the package variables that the reading takes, are together of bulk at most 1048576: NARROWER than '..Said'. Prove '..Said' where nothing that the law and all that it calls make is longer than what came in: it says more and counts as full. Else prove '..UptoSaid'. A law counts once. -/
mutual
def uptoBulk {H : Type} : DataW H → Nat
  | .lit (.string bytes) => bytes.length + 1
  | .lit _ => 1
  | .nil => 1
  | .ptr d => uptoBulk d + 1
  | .slice elems spare => uptoBulkAll elems + uptoBulkAll spare + 1
  | .agg parts => uptoBulkAll parts + 1
  | .iface _ d => uptoBulk d + 1
  | .map entries => uptoBulkEntries entries + 1
  | .held _ => 1
def uptoBulkAll {H : Type} : List (DataW H) → Nat
  | [] => 0
  | d :: r => uptoBulk d + uptoBulkAll r
def uptoBulkEntries {H : Type} : List (Lit × DataW H) → Nat
  | [] => 0
  | x :: r => uptoBulkEntry x + uptoBulkEntries r
def uptoBulkEntry {H : Type} : Lit × DataW H → Nat
  | (.string bytes, d) => bytes.length + uptoBulk d + 1
  | (_, d) => uptoBulk d + 1
 end
def uptoSmall : (H : Type) → List (DataW H) → Bool := fun _ ds => decide (uptoBulkAll ds ≤ 1048576)
def OpenSpec.upto (s : _root_.Go.ChangeSpec) : _root_.Go.OpenSpec := { _root_.Go.OpenSpec.ofChange s with cond := some uptoSmall }

/-- 'wringerlaw19.ZerosCodes', WHERE WHAT IT READS IS OF BULK AT MOST 1048576: true; the input reads as it did. -/
def zerosCodesUptoRow : OpenClaim := { program := "yteeieeoieagclaa", sum := "5828b2f3adb1052871e2d7503a5ae331a0c64eee5a9a04df2a2c9d5f9edc1619", func := "wringer/wringerlaw19.ZerosCodes", spec := "zerosCodes", unfollowed := true, recurses := true, apart := false, narrowed := true }
def ZerosCodesUptoSaid : Prop := zerosCodesUptoRow.holds Try.pinned (OpenSpec.upto zerosCodesSpec)

/-- 'wringerlaw19.ZerosDigits', WHERE WHAT IT READS IS OF BULK AT MOST 1048576: true; the input reads as it did. -/
def zerosDigitsUptoRow : OpenClaim := { program := "yteeieeoieagclaa", sum := "5828b2f3adb1052871e2d7503a5ae331a0c64eee5a9a04df2a2c9d5f9edc1619", func := "wringer/wringerlaw19.ZerosDigits", spec := "zerosDigits", unfollowed := true, recurses := true, apart := false, narrowed := true }
def ZerosDigitsUptoSaid : Prop := zerosDigitsUptoRow.holds Try.pinned (OpenSpec.upto zerosDigitsSpec)

/-- 'wringerlaw19.ZerosBack', WHERE WHAT IT READS IS OF BULK AT MOST 1048576: true; the input reads as it did. -/
def zerosBackUptoRow : OpenClaim := { program := "yteeieeoieagclaa", sum := "5828b2f3adb1052871e2d7503a5ae331a0c64eee5a9a04df2a2c9d5f9edc1619", func := "wringer/wringerlaw19.ZerosBack", spec := "zerosBack", unfollowed := true, recurses := true, apart := false, narrowed := true }
def ZerosBackUptoSaid : Prop := zerosBackUptoRow.holds Try.pinned (OpenSpec.upto zerosBackSpec)

/-- 'wringerlaw19.ZerosRuns', WHERE WHAT IT READS IS OF BULK AT MOST 1048576: true; the input reads as it did. -/
def zerosRunsUptoRow : OpenClaim := { program := "yteeieeoieagclaa", sum := "5828b2f3adb1052871e2d7503a5ae331a0c64eee5a9a04df2a2c9d5f9edc1619", func := "wringer/wringerlaw19.ZerosRuns", spec := "zerosRuns", unfollowed := true, recurses := true, apart := false, narrowed := true }
def ZerosRunsUptoSaid : Prop := zerosRunsUptoRow.holds Try.pinned (OpenSpec.upto zerosRunsSpec)

end Rows
end Go.Proofs.Yteeieeoieagclaa
