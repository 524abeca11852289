/-
  DERIVED. GIVEN WITH THE SEED: THE CARDS: each row of YtidmmcgnghdfdaaDoorRows.lean that lists a variable, with what it lists TIED to the program's text (the seventh form; the later family's looks); each row that meets fmt, with fmt's text TOLD by the authors' own Lean function (tested against real Go, not proved from fmt's source: count such statements apart). THE CARD IS WHAT COUNTS. Prove the row's statement (the work); the ties are given (YtidmmcgnghdfdaaDoorTie.lean); close each card by the builder's one call (the guide's Derived/Test/ToyasCard.lean, 'card_holds'). Laid BY PROGRAM, IN A SANDBOX (cutbox-door.mjs). By AI agents, Wed Nov 11 2026. No macro, syntax, notation, axiom, sorry.
-/
import Derived.Test.YtidmmcgnghdfdaaDoorRows
import GoSem.ClaimSeven
namespace Go.Proofs.YtidmmcgnghdfdaaDoor
namespace Rows

/-- THE TIED CARD OF 'wringertop.TopCoded'. -/
def topCodedCard : Claim7 := { stood := { row := topCodedRow, standIns := [], harness := (true, "a2772031e775f66a42f11d58a611e740b30d14d1ef4e9b56cdaf011973374f89"), looks := true }, kinds := [], alts := [], laidByText := true, laidKinds := [.sentinel, .sentinel], laidTests := true, laidLooks := .later }
def TopCodedCardSaid : Prop := Claim7.holds Tryd.pinned (.plain (OpenSpec.ofChange topCodedSpec)) topCodedCard

/-- THE SECOND FORM's CARD OF 'wringertop.TopCoded'. -/
def topCodedUptoCard : Claim7 := { stood := { row := topCodedUptoRow, standIns := [], harness := (true, "a2772031e775f66a42f11d58a611e740b30d14d1ef4e9b56cdaf011973374f89"), looks := true }, kinds := [], alts := [], laidByText := true, laidKinds := [.sentinel, .sentinel], laidTests := true, laidLooks := .later }
def TopCodedUptoCardSaid : Prop := Claim7.holds Tryd.pinned (.plain (OpenSpec.upto topCodedSpec)) topCodedUptoCard
end Rows
end Go.Proofs.YtidmmcgnghdfdaaDoor
