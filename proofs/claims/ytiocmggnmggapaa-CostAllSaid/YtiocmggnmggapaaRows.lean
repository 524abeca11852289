/-
  No cell of these rows narrows 'for every input' (looked for: loops, veiled, ifaces, maps, wideKeys, modest, calm, conditions, laid).
  DERIVED. THE GIVEN ROWS OF THIS SEAT. 6 by the template 'for every input the law returns true; each argument reads behind the call as it read before'; 0 by the template 'total and deterministic' (their statements: YtiocmggnmggapaaTotals.lean).
  GIVEN WITH THE SEED: the statements are not yours to turn. If you find one false, say at which input.
  Laid BY PROGRAM, IN A SANDBOX (cutbox-rows.mjs): the forced cells as the released guide's own fill.sh prints them over the translation 98c82c229e9d8383… (all of the seat's roots in one cut). By AI agents, Wed Nov 11 2026. No macro, syntax, notation, axiom, sorry.
-/
import Derived.Test.YtiocmggnmggapaaChecked
import GoSem.Claim
import GoSem.ClaimJoined
import GoSem.ClaimMapViews
import Derived.JoinedTies
import Derived.KernelRfl
namespace Go.Proofs.Ytiocmggnmggapaa
/- THE CELL 'sum', in the pinned program and in every row, IS THE sha256 OF THE DUMP (.gsa) THAT YtiocmggnmggapaaProg.lean LOADS. Nothing in Lean hashes anything: it is a label: what it is worth is what the hold of that sum in a sandbox is worth. -/
noncomputable def Try.pinned : Pinned := { name := "ytiocmggnmggapaa", sum := "98c82c229e9d838317789b19c96b37f314e8c42244ce46ad2afd6ab44b75bc91", checked := Try.checked }
namespace Rows
def none {H : Type} : Left H := { results := [], args := [] }

/-- 'wringerlaw30.CostSorts': WHATEVER THE INPUT: true; the input reads as it did. -/
def costSortsSpec : ChangeSpec := { name := "costSorts", fn := fun _ => fun
  | [d1, d2, d3] => { results := [.lit (.bool true)], args := [d1, d2, d3] }
  | _ => none }
def costSortsRow : OpenClaim := { program := "ytiocmggnmggapaa", sum := "98c82c229e9d838317789b19c96b37f314e8c42244ce46ad2afd6ab44b75bc91", func := "wringer/wringerlaw30.CostSorts", spec := "costSorts", unfollowed := true, recurses := true, apart := false }
def CostSortsSaid : Prop := costSortsRow.holds Try.pinned (OpenSpec.ofChange costSortsSpec)

/-- ITS FALSE NEIGHBOUR: 'it returns false'. Refute it at one input. -/
def costSortsWrong : ChangeSpec := { name := "costSorts", fn := fun _ => fun
  | [d1, d2, d3] => { results := [.lit (.bool false)], args := [d1, d2, d3] }
  | _ => none }
def CostSortsWrongFalsely : Prop := costSortsRow.holds Try.pinned (OpenSpec.ofChange costSortsWrong)

/-- 'wringerlaw30.CostLevels': WHATEVER THE INPUT: true; the input reads as it did. -/
def costLevelsSpec : ChangeSpec := { name := "costLevels", fn := fun _ => fun
  | [d1, d2, d3, d4] => { results := [.lit (.bool true)], args := [d1, d2, d3, d4] }
  | _ => none }
def costLevelsRow : OpenClaim := { program := "ytiocmggnmggapaa", sum := "98c82c229e9d838317789b19c96b37f314e8c42244ce46ad2afd6ab44b75bc91", func := "wringer/wringerlaw30.CostLevels", spec := "costLevels", unfollowed := true, recurses := true, apart := false }
def CostLevelsSaid : Prop := costLevelsRow.holds Try.pinned (OpenSpec.ofChange costLevelsSpec)

/-- ITS FALSE NEIGHBOUR: 'it returns false'. Refute it at one input. -/
def costLevelsWrong : ChangeSpec := { name := "costLevels", fn := fun _ => fun
  | [d1, d2, d3, d4] => { results := [.lit (.bool false)], args := [d1, d2, d3, d4] }
  | _ => none }
def CostLevelsWrongFalsely : Prop := costLevelsRow.holds Try.pinned (OpenSpec.ofChange costLevelsWrong)

/-- 'wringerlaw30.CostAll': WHATEVER THE INPUT: true; the input reads as it did. -/
def costAllSpec : ChangeSpec := { name := "costAll", fn := fun _ => fun
  | [d1, d2, d3] => { results := [.lit (.bool true)], args := [d1, d2, d3] }
  | _ => none }
def costAllRow : OpenClaim := { program := "ytiocmggnmggapaa", sum := "98c82c229e9d838317789b19c96b37f314e8c42244ce46ad2afd6ab44b75bc91", func := "wringer/wringerlaw30.CostAll", spec := "costAll", unfollowed := true, recurses := true, apart := false }
def CostAllSaid : Prop := costAllRow.holds Try.pinned (OpenSpec.ofChange costAllSpec)

/-- ITS FALSE NEIGHBOUR: 'it returns false'. Refute it at one input. -/
def costAllWrong : ChangeSpec := { name := "costAll", fn := fun _ => fun
  | [d1, d2, d3] => { results := [.lit (.bool false)], args := [d1, d2, d3] }
  | _ => none }
def CostAllWrongFalsely : Prop := costAllRow.holds Try.pinned (OpenSpec.ofChange costAllWrong)

/-- 'wringerlaw30.CostLess': WHATEVER THE INPUT: true; the input reads as it did. -/
def costLessSpec : ChangeSpec := { name := "costLess", fn := fun _ => fun
  | [d1, d2] => { results := [.lit (.bool true)], args := [d1, d2] }
  | _ => none }
def costLessRow : OpenClaim := { program := "ytiocmggnmggapaa", sum := "98c82c229e9d838317789b19c96b37f314e8c42244ce46ad2afd6ab44b75bc91", func := "wringer/wringerlaw30.CostLess", spec := "costLess", unfollowed := true, recurses := true, apart := false }
def CostLessSaid : Prop := costLessRow.holds Try.pinned (OpenSpec.ofChange costLessSpec)

/-- ITS FALSE NEIGHBOUR: 'it returns false'. Refute it at one input. -/
def costLessWrong : ChangeSpec := { name := "costLess", fn := fun _ => fun
  | [d1, d2] => { results := [.lit (.bool false)], args := [d1, d2] }
  | _ => none }
def CostLessWrongFalsely : Prop := costLessRow.holds Try.pinned (OpenSpec.ofChange costLessWrong)

/-- 'wringerlaw30.CostLog': WHATEVER THE INPUT: true; the input reads as it did. -/
def costLogSpec : ChangeSpec := { name := "costLog", fn := fun _ => fun
  | [d1, d2] => { results := [.lit (.bool true)], args := [d1, d2] }
  | _ => none }
def costLogRow : OpenClaim := { program := "ytiocmggnmggapaa", sum := "98c82c229e9d838317789b19c96b37f314e8c42244ce46ad2afd6ab44b75bc91", func := "wringer/wringerlaw30.CostLog", spec := "costLog", unfollowed := true, recurses := true, apart := false }
def CostLogSaid : Prop := costLogRow.holds Try.pinned (OpenSpec.ofChange costLogSpec)

/-- ITS FALSE NEIGHBOUR: 'it returns false'. Refute it at one input. -/
def costLogWrong : ChangeSpec := { name := "costLog", fn := fun _ => fun
  | [d1, d2] => { results := [.lit (.bool false)], args := [d1, d2] }
  | _ => none }
def CostLogWrongFalsely : Prop := costLogRow.holds Try.pinned (OpenSpec.ofChange costLogWrong)

/-- 'wringerlaw30.CostFew': WHATEVER THE INPUT: true; the input reads as it did. -/
def costFewSpec : ChangeSpec := { name := "costFew", fn := fun _ => fun
  | [d1, d2, d3] => { results := [.lit (.bool true)], args := [d1, d2, d3] }
  | _ => none }
def costFewRow : OpenClaim := { program := "ytiocmggnmggapaa", sum := "98c82c229e9d838317789b19c96b37f314e8c42244ce46ad2afd6ab44b75bc91", func := "wringer/wringerlaw30.CostFew", spec := "costFew", unfollowed := true, recurses := true, apart := false }
def CostFewSaid : Prop := costFewRow.holds Try.pinned (OpenSpec.ofChange costFewSpec)

/-- ITS FALSE NEIGHBOUR: 'it returns false'. Refute it at one input. -/
def costFewWrong : ChangeSpec := { name := "costFew", fn := fun _ => fun
  | [d1, d2, d3] => { results := [.lit (.bool false)], args := [d1, d2, d3] }
  | _ => none }
def CostFewWrongFalsely : Prop := costFewRow.holds Try.pinned (OpenSpec.ofChange costFewWrong)

/- THE SECOND FORM. 'bulk': how many values and letters a reading holds, each counted each time it is reached (what is shared counts as often as it is met; a slice's spare places count too). A statement '..UptoSaid' is the law's where the arguments, and the package variables that the reading takes, are together of bulk at most 1048576: NARROWER than '..Said'. Prove '..Said' where nothing that the law and all that it calls make is longer than what came in: it says more and counts as full. Else prove '..UptoSaid'. A law counts once. -/
mutual
def uptoBulk {H : Type} : DataW H → Nat
  | .lit (.string bytes) => bytes.length + 1
  | .lit _ => 1
  | .nil => 1
  | .ptr d => uptoBulk d + 1
  | .slice elems spare => uptoBulkAll elems + uptoBulkAll spare + 1
  | .agg parts => uptoBulkAll parts + 1
  | .iface _ d => uptoBulk d + 1
  | .map entries => uptoBulkEntries entries + 1
  | .held _ => 1
def uptoBulkAll {H : Type} : List (DataW H) → Nat
  | [] => 0
  | d :: r => uptoBulk d + uptoBulkAll r
def uptoBulkEntries {H : Type} : List (Lit × DataW H) → Nat
  | [] => 0
  | x :: r => uptoBulkEntry x + uptoBulkEntries r
def uptoBulkEntry {H : Type} : Lit × DataW H → Nat
  | (.string bytes, d) => bytes.length + uptoBulk d + 1
  | (_, d) => uptoBulk d + 1
 end
def uptoSmall : (H : Type) → List (DataW H) → Bool := fun _ ds => decide (uptoBulkAll ds ≤ 1048576)
def OpenSpec.upto (s : _root_.Go.ChangeSpec) : _root_.Go.OpenSpec := { _root_.Go.OpenSpec.ofChange s with cond := some uptoSmall }

/-- 'wringerlaw30.CostSorts', WHERE WHAT IT READS IS OF BULK AT MOST 1048576: true; the input reads as it did. -/
def costSortsUptoRow : OpenClaim := { program := "ytiocmggnmggapaa", sum := "98c82c229e9d838317789b19c96b37f314e8c42244ce46ad2afd6ab44b75bc91", func := "wringer/wringerlaw30.CostSorts", spec := "costSorts", unfollowed := true, recurses := true, apart := false, narrowed := true }
def CostSortsUptoSaid : Prop := costSortsUptoRow.holds Try.pinned (OpenSpec.upto costSortsSpec)

/-- 'wringerlaw30.CostLevels', WHERE WHAT IT READS IS OF BULK AT MOST 1048576: true; the input reads as it did. -/
def costLevelsUptoRow : OpenClaim := { program := "ytiocmggnmggapaa", sum := "98c82c229e9d838317789b19c96b37f314e8c42244ce46ad2afd6ab44b75bc91", func := "wringer/wringerlaw30.CostLevels", spec := "costLevels", unfollowed := true, recurses := true, apart := false, narrowed := true }
def CostLevelsUptoSaid : Prop := costLevelsUptoRow.holds Try.pinned (OpenSpec.upto costLevelsSpec)

/-- 'wringerlaw30.CostAll', WHERE WHAT IT READS IS OF BULK AT MOST 1048576: true; the input reads as it did. -/
def costAllUptoRow : OpenClaim := { program := "ytiocmggnmggapaa", sum := "98c82c229e9d838317789b19c96b37f314e8c42244ce46ad2afd6ab44b75bc91", func := "wringer/wringerlaw30.CostAll", spec := "costAll", unfollowed := true, recurses := true, apart := false, narrowed := true }
def CostAllUptoSaid : Prop := costAllUptoRow.holds Try.pinned (OpenSpec.upto costAllSpec)

/-- 'wringerlaw30.CostLess', WHERE WHAT IT READS IS OF BULK AT MOST 1048576: true; the input reads as it did. -/
def costLessUptoRow : OpenClaim := { program := "ytiocmggnmggapaa", sum := "98c82c229e9d838317789b19c96b37f314e8c42244ce46ad2afd6ab44b75bc91", func := "wringer/wringerlaw30.CostLess", spec := "costLess", unfollowed := true, recurses := true, apart := false, narrowed := true }
def CostLessUptoSaid : Prop := costLessUptoRow.holds Try.pinned (OpenSpec.upto costLessSpec)

/-- 'wringerlaw30.CostLog', WHERE WHAT IT READS IS OF BULK AT MOST 1048576: true; the input reads as it did. -/
def costLogUptoRow : OpenClaim := { program := "ytiocmggnmggapaa", sum := "98c82c229e9d838317789b19c96b37f314e8c42244ce46ad2afd6ab44b75bc91", func := "wringer/wringerlaw30.CostLog", spec := "costLog", unfollowed := true, recurses := true, apart := false, narrowed := true }
def CostLogUptoSaid : Prop := costLogUptoRow.holds Try.pinned (OpenSpec.upto costLogSpec)

/-- 'wringerlaw30.CostFew', WHERE WHAT IT READS IS OF BULK AT MOST 1048576: true; the input reads as it did. -/
def costFewUptoRow : OpenClaim := { program := "ytiocmggnmggapaa", sum := "98c82c229e9d838317789b19c96b37f314e8c42244ce46ad2afd6ab44b75bc91", func := "wringer/wringerlaw30.CostFew", spec := "costFew", unfollowed := true, recurses := true, apart := false, narrowed := true }
def CostFewUptoSaid : Prop := costFewUptoRow.holds Try.pinned (OpenSpec.upto costFewSpec)

end Rows
end Go.Proofs.Ytiocmggnmggapaa
