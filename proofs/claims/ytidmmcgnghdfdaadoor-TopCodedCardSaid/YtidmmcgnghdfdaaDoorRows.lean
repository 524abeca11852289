/-
  NARROWER THAN 'FOR EVERY INPUT', by the rows' own cells (each row's printed sentence says how): TopCoded: laid.
  DERIVED. THE GIVEN ROWS OF THIS SEAT. 1 by the template 'for every input the law returns true; each argument reads behind the call as it read before'; 0 by the template 'total and deterministic' (their statements: YtidmmcgnghdfdaaDoorTotals.lean).
  GIVEN WITH THE SEED: the statements are not yours to turn. If you find one false, say at which input.
  Laid BY PROGRAM, IN A SANDBOX (cutbox-rows.mjs): the forced cells as the released guide's own fill.sh prints them over the translation 0bedc45b389f48f1… (all of the seat's roots in one cut). By AI agents, Wed Nov 11 2026. No macro, syntax, notation, axiom, sorry.
-/
import Derived.Test.YtidmmcgnghdfdaaDoorChecked
import GoSem.Claim
import GoSem.ClaimJoined
import GoSem.ClaimMapViews
import Derived.JoinedTies
import Derived.KernelRfl
namespace Go.Proofs.YtidmmcgnghdfdaaDoor
/- THE CELL 'sum', in the pinned program and in every row, IS THE sha256 OF THE DUMP (.gsa) THAT YtidmmcgnghdfdaaDoorProg.lean LOADS. Nothing in Lean hashes anything: it is a label: what it is worth is what the hold of that sum in a sandbox is worth. -/
noncomputable def Tryd.pinned : Pinned := { name := "ytidmmcgnghdfdaadoor", sum := "0bedc45b389f48f1290944ae59759e5172fd1f108f12f654da38c9358cf6c674", checked := Tryd.checked }
namespace Rows
def none {H : Type} : Left H := { results := [], args := [] }

/- WHAT THE LISTED PACKAGE-LEVEL VARIABLES READ AS WHEN THE CALL BEGINS. Each datum BY PROGRAM (the guide's laid-datum.mjs) off the statement by which the dump's own 'gosem.cut.vars' lays the variable. In a bare row this is a premise. The card (YtidmmcgnghdfdaaDoorCards.lean) ties it to the program's text. -/
def laid_wringer_table_errShort {H : Type} : DataW H := .iface "*errors.errorString" (.ptr (.agg [.lit (.string [116, 104, 101, 32, 98, 105, 116, 115, 32, 101, 110, 100])]))
def laid_wringer_table_errCode {H : Type} : DataW H := .iface "*errors.errorString" (.ptr (.agg [.lit (.string [110, 111, 32, 116, 97, 98, 108, 101])]))

/-- 'wringertop.TopCoded': WHATEVER THE INPUT: true; the input reads as it did. -/
def topCodedSpec : ChangeSpec := { name := "topCoded", fn := fun _ => fun
  | [d] => { results := [.lit (.bool true)], args := [d] }
  | _ => none }
def topCodedRow : OpenClaim := { program := "ytidmmcgnghdfdaadoor", sum := "0bedc45b389f48f1290944ae59759e5172fd1f108f12f654da38c9358cf6c674", func := "wringer/wringertop.TopCoded", spec := "topCoded", inPlace := ["internal/reflectlite.TypeOf"], unfollowed := true, recurses := true, named := ["wringer/table.errShort", "wringer/table.errCode"], apart := false, laid := [("wringer/table.errShort", laid_wringer_table_errShort), ("wringer/table.errCode", laid_wringer_table_errCode)] }
def TopCodedSaid : Prop := topCodedRow.holds Tryd.pinned (OpenSpec.ofChange topCodedSpec)

/-- ITS FALSE NEIGHBOUR: 'it returns false'. Refute it at one input. -/
def topCodedWrong : ChangeSpec := { name := "topCoded", fn := fun _ => fun
  | [d] => { results := [.lit (.bool false)], args := [d] }
  | _ => none }
def TopCodedWrongFalsely : Prop := topCodedRow.holds Tryd.pinned (OpenSpec.ofChange topCodedWrong)

/- THE SECOND FORM. 'bulk': how many values and letters a reading holds, each counted each time it is reached (what is shared counts as often as it is met; a slice's spare places count too). A statement '..UptoSaid' is the law's where the arguments, and the package variables that the reading takes, are together of bulk at most 1048576: NARROWER than '..Said'. Prove '..Said' where nothing that the law and all that it calls make is longer than what came in: it says more and counts as full. Else prove '..UptoSaid'. A law counts once. -/
mutual
def uptoBulk {H : Type} : DataW H → Nat
  | .lit (.string bytes) => bytes.length + 1
  | .lit _ => 1
  | .nil => 1
  | .ptr d => uptoBulk d + 1
  | .slice elems spare => uptoBulkAll elems + uptoBulkAll spare + 1
  | .agg parts => uptoBulkAll parts + 1
  | .iface _ d => uptoBulk d + 1
  | .map entries => uptoBulkEntries entries + 1
  | .held _ => 1
def uptoBulkAll {H : Type} : List (DataW H) → Nat
  | [] => 0
  | d :: r => uptoBulk d + uptoBulkAll r
def uptoBulkEntries {H : Type} : List (Lit × DataW H) → Nat
  | [] => 0
  | x :: r => uptoBulkEntry x + uptoBulkEntries r
def uptoBulkEntry {H : Type} : Lit × DataW H → Nat
  | (.string bytes, d) => bytes.length + uptoBulk d + 1
  | (_, d) => uptoBulk d + 1
 end
def uptoSmall : (H : Type) → List (DataW H) → Bool := fun _ ds => decide (uptoBulkAll ds ≤ 1048576)
def OpenSpec.upto (s : _root_.Go.ChangeSpec) : _root_.Go.OpenSpec := { _root_.Go.OpenSpec.ofChange s with cond := some uptoSmall }

/-- 'wringertop.TopCoded', WHERE WHAT IT READS IS OF BULK AT MOST 1048576: true; the input reads as it did. -/
def topCodedUptoRow : OpenClaim := { program := "ytidmmcgnghdfdaadoor", sum := "0bedc45b389f48f1290944ae59759e5172fd1f108f12f654da38c9358cf6c674", func := "wringer/wringertop.TopCoded", spec := "topCoded", inPlace := ["internal/reflectlite.TypeOf"], unfollowed := true, recurses := true, named := ["wringer/table.errShort", "wringer/table.errCode"], apart := false, laid := [("wringer/table.errShort", laid_wringer_table_errShort), ("wringer/table.errCode", laid_wringer_table_errCode)], narrowed := true }
def TopCodedUptoSaid : Prop := topCodedUptoRow.holds Tryd.pinned (OpenSpec.upto topCodedSpec)

end Rows
end Go.Proofs.YtidmmcgnghdfdaaDoor
