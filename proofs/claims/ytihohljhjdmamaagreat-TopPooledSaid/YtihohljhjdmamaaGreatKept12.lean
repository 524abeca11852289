/- A disk: an extent is made, a sector is written, all is done: as plain data. -/
import Derived.Test.YtihohljhjdmamaaGreatKept11
namespace Go.Proofs.YtihohljhjdmamaaGreat
open Go.RowKit
set_option linter.unusedVariables false

theorem wrap_fin {w W0 w1 w2 w3 : World} {R : Nat} {o : Obj} (h0 : w.grownBy W0 none) (h1 : W0.grownBy w1 none) (h2 : Below W0.heap.size w1 w2) (h3 : w2.grownBy w3 none) (hr : W0.heap[R]? = some o) : w3.heap[R]? = some o ∧ w.grownBy w3 none := by
  have hlt := row_lt hr
  refine ⟨row_kept ((h2.block R hlt).trans (row_kept hr h1 (by simp))) h3 (by simp), grown_bel ?_ none⟩
  have b1 : Below w.heap.size w w1 := bel_grown (grown_trans h0 h1) (Nat.le_refl _)
  exact (b1.trans (h2.mono h0.size)).trans (bel_grown h3 (Nat.le_trans h0.size (Nat.le_trans h1.size h2.size)))
theorem sync1_any (k : Nat) (W : World) : Calls Tryz.prog 64 #[.int .i64 (k : Nat)] W fun e w' => e = .returned (.bool ((fun _ => true : Nat → Bool) k)) ∧ w' = W := by
  go_enter Tryz.func64, Tryz.ntmps64
  go_wp2_with fail
  go_ret
  exact ⟨rfl, rfl⟩
theorem RowAt.put {w w' : World} {v : Value} {n R : Nat} {xs : List Value} {z : Int} (h : RowAt w v n xs) (hx : xs = [] ∨ ∃ s, xs[0]? = some (.string s)) (hr : w.cell? ⟨R, 0, none⟩ = some (.int .i64 z)) (hg : w.grownBy w' (some R)) : RowAt w' v n xs := by
  obtain ⟨a, cap, h1, h2⟩ := h
  refine ⟨a, cap, h1, fun j u hj => ?_⟩
  obtain ⟨g, e1, c1⟩ := h2 j u hj
  refine ⟨g, e1, hg.cell c1 (fun e => ?_)⟩
  injection e with e
  simp only at e
  rcases hx with rfl | ⟨s, hs⟩
  · simp at hj
  · obtain ⟨g2, e2, c2⟩ := h2 0 _ hs
    rw [e1] at e2
    injection e2 with e2
    injection e2 with e2
    rw [← e2, show g = R by omega] at c2
    rw [hr] at c2
    injection c2 with c2
    cases c2
theorem exC_head (nm : ByteArray) (E : Option ByteArray) : exC nm E = [] ∨ ∃ s, (exC nm E)[0]? = some (.string s) := by
  cases E with
  | none => exact .inl rfl
  | some D => exact .inr ⟨nm, rfl⟩
theorem wsC_head (nm : ByteArray) (ws : List (Nat × ByteArray)) : wsC nm ws = [] ∨ ∃ s, (wsC nm ws)[0]? = some (.string s) := by
  cases ws with
  | nil => exact .inl rfl
  | cons p ws => exact .inr ⟨nm, rfl⟩
/-- all is done -/
def dall (ws : List (Nat × ByteArray)) (D : ByteArray) : ByteArray := dn (fun _ => true) ws D
set_option maxRecDepth 100000 in
theorem devsync_any {B b S : Nat} {nm D : ByteArray} {ws : List (Nat × ByteArray)} (hG : Good S nm (some D) ws) (w : World) (h : DevAt w B b S nm (some D) ws) (hBw : B ≤ w.heap.size) :
    Calls Tryz.prog 40 #[.pointer (some ⟨b, 0, none⟩)] w fun e w' => e = .returned (.tuple #[]) ∧ DevAt w' B b S nm (some (dall ws D)) [] ∧ Below B w w' := by
  have HS := Lib.hid (settle_sync (fun _ => true) hG w h hBw (fun W _ k _ => sync1_any k W))
  clear h hG
  go_enter Tryz.func40, Tryz.ntmps40
  go_wp2_with fail
  refine HS.out.mono ?_
  rintro e w1 ⟨rfl, hd, hb⟩
  simp only []
  go_wp2_with fail
  go_end0
  exact ⟨rfl, hd, hb⟩

end Go.Proofs.YtihohljhjdmamaaGreat
