/- Whether a disk is right. -/
import Derived.Test.YtihohljhjdmamaaGreatKept4
import Derived.Deep.RegionHeld3
namespace Go.Proofs.YtihohljhjdmamaaGreat
open Go.RowKit
set_option linter.unusedVariables false

theorem isNm_ne {x : ByteArray} (h : isNm x = true) : (x.toList == []) = false := by
  unfold isNm at h
  cases h2 : (x.toList == []) with
  | false => rfl
  | true => rw [h2] at h; simp at h
theorem bytesLess_nil (l : List UInt8) : Op.bytesLess l [] = false := by cases l <;> simp [Op.bytesLess]
theorem size_ne {D : ByteArray} (h : 1 ≤ D.size) : (D.toList == []) = false := by
  cases h2 : (D.toList == []) with
  | false => rfl
  | true =>
    have h3 : D.toList = [] := by simpa using h2
    rw [ByteArray.toList_eq] at h3
    have := size_data D
    rw [h3] at this
    simp at this; omega

set_option maxRecDepth 100000 in
set_option maxHeartbeats 2000000 in
theorem extents_none (v : Value) (hv : ∃ a c, v = .slice a 0 c) (S : Nat) (w : World) : Calls Tryz.prog 45 #[v, .int .i64 (S : Nat)] w fun e w' => e = .returned (.bool true) ∧ w' = w := by
  obtain ⟨a, c, rfl⟩ := hv
  go_enter Tryz.func45, Tryz.ntmps45
  go_wp2
  go_loop [10] (fun iv => iv = .int .i64 0) (fun iv => 1 - (intOf iv).toNat)
  case atStart => rfl
  case round =>
    subst hrel
    go_wp2_with fail
    go_ret
    exact ⟨rfl, rfl⟩
set_option maxRecDepth 100000 in
set_option maxHeartbeats 4000000 in
theorem extents_one (g cap : Nat) (x D : ByteArray) (m S : Nat) (hx : isNm x = true) (hm : D.size = 64 * m) (hm1 : 1 ≤ m) (hmS : m ≤ S) (hS : S ≤ 16384) (w : World) (c0 : w.cell? ⟨g, 0, none⟩ = some (.string x)) (c1 : w.cell? ⟨g, 1, none⟩ = some (.string D)) :
    Calls Tryz.prog 45 #[.slice (some ⟨g, 0, none⟩) 1 cap, .int .i64 (S : Nat)] w fun e w' => e = .returned (.bool true) ∧ Hid (w.grownBy w' none) := by
  have hx0 := isNm_ne hx
  have hD0 := size_ne (D := D) (by omega)
  have hDl : ((D.size : Nat) : Int) % 64 = 0 := by omega
  have HNm := Lib.hid (fun g cap w hc => by have h := named_any g cap x w hc; rw [hx] at h; exact h)
  have HSc := Lib.hid (fun w => sectors_any x D m hm (by omega) w)
  have hlt0 := bytesLess_nil x.toList
  have C0 := Lib.hid c0
  have C1 := Lib.hid c1
  have hSm : ¬ (S : Int) - (m : Int) < 0 := by omega
  clear hx hm c0 c1
  go_enter Tryz.func45, Tryz.ntmps45
  go_wp2
  go_loopw [1, 5, 10] (fun sv lv iv wr => ∃ i : Nat, iv = .int .i64 (i : Nat) ∧ i ≤ 1 ∧ (i = 0 → sv = .int .i64 (S : Nat) ∧ lv = .string ⟨#[]⟩) ∧ Hid (w.grownBy wr none)) (fun _ _ iv _ => 1 - (intOf iv).toNat)
  case atStart => exact ⟨0, rfl, by omega, fun _ => ⟨rfl, rfl⟩, grown_self _ _⟩
  case round =>
    obtain ⟨i, rfl, hi, h0, hg⟩ := hrel
    by_cases hlt : i < 1
    · obtain rfl : i = 0 := by omega
      obtain ⟨rfl, rfl⟩ := h0 rfl
      have a0 := hg.out.cell C0.out (by simp)
      have a1 := hg.out.cell C1.out (by simp)
      clear h0
      have q1 := heap_alloc_new wr (.cells #[.string x, .string D] 62)
      have g1 := World.grownBy_alloc wr (.cells #[.string x, .string D] 62) none
      have q2 := heap_alloc_new (wr.alloc (.cells #[.string x, .string D] 62)) (.cells #[.string x] 9)
      have g2 := World.grownBy_alloc (wr.alloc (.cells #[.string x, .string D] 62)) (.cells #[.string x] 9) none
      go_wp2_with fail
      simp only [World.size_alloc] at q2 ⊢
      have q1' := row_kept q1 g2 (by simp)
      have hg3 := grown_trans hg.out (grown_trans g1 g2)
      generalize (wr.alloc (.cells #[.string x, .string D] 62)).alloc (.cells #[.string x] 9) = W1 at *
      refine (HNm.out _ _ _ (row_cell q2 0 _ rfl)).mono ?_
      rintro e w' ⟨rfl, rfl⟩
      simp only []
      obtain ⟨b0, b1, _, _⟩ := row2 q1'
      have HG3 := Lib.hid hg3
      clear q1 q2 q1' g1 g2 hg3 a0 a1 hg
      go_wp2_with fail
      refine (HSc.out _).mono ?_
      rintro e w2 ⟨rfl, hg2⟩
      have e0 := hg2.out.cell b0 (by simp)
      have e1 := hg2.out.cell b1 (by simp)
      have HG4 := Lib.hid (grown_trans HG3.out hg2.out)
      clear b0 b1 hg2
      simp only []
      go_wp2_with fail
      go_roundw
      case rel => exact ⟨1, rfl, by omega, fun e => by omega, HG4⟩
      case measure => simp [intOf]
    · obtain rfl : i = 1 := by omega
      go_wp2_with fail
      go_ret
      exact ⟨rfl, hg⟩

/-- the one extent, or none -/
def exN : Option ByteArray → Nat
  | none => 0
  | some _ => 1
def exC (nm : ByteArray) : Option ByteArray → List Value
  | none => []
  | some D => [.string nm, .string D]
def wsC (nm : ByteArray) : List (Nat × ByteArray) → List Value
  | [] => []
  | p :: ws => .string nm :: .int .i64 (p.1 : Nat) :: .string p.2 :: wsC nm ws
theorem wsC_length (nm : ByteArray) : ∀ ws, (wsC nm ws).length = ws.length * 3
  | [] => rfl
  | p :: ws => by simp [wsC, wsC_length nm ws]; omega
theorem wsC_append (nm : ByteArray) : ∀ a b, wsC nm (a ++ b) = wsC nm a ++ wsC nm b
  | [], b => rfl
  | p :: a, b => by simp [wsC, wsC_append nm a b]
theorem wsC_one (nm : ByteArray) : ∀ ws, ∀ u ∈ wsC nm ws, u.oneCell' = true
  | [], u, h => by simp [wsC] at h
  | p :: ws, u, h => by
    simp only [wsC, List.mem_cons] at h
    rcases h with rfl | rfl | rfl | h
    · rfl
    · rfl
    · rfl
    · exact wsC_one nm ws u h
theorem wsC_get (nm : ByteArray) : ∀ (ws : List (Nat × ByteArray)) (i : Nat) (p : Nat × ByteArray), ws[i]? = some p → (wsC nm ws)[i * 3]? = some (.string nm) ∧ (wsC nm ws)[i * 3 + 1]? = some (.int .i64 (p.1 : Nat)) ∧ (wsC nm ws)[i * 3 + 2]? = some (.string p.2)
  | [], i, p, h => by simp at h
  | q :: ws, 0, p, h => by
    simp at h; subst h
    exact ⟨rfl, rfl, rfl⟩
  | q :: ws, i + 1, p, h => by
    simp at h
    have := wsC_get nm ws i p h
    rw [show (i + 1) * 3 = i * 3 + 3 by omega]
    exact this
theorem exC_length (nm : ByteArray) (E : Option ByteArray) : (exC nm E).length = exN E * 2 := by cases E <;> rfl
theorem exC_one (nm : ByteArray) (E : Option ByteArray) : ∀ u ∈ exC nm E, u.oneCell' = true := by
  intro u h
  cases E with
  | none => simp [exC] at h
  | some D => simp [exC] at h; rcases h with rfl | rfl <;> rfl
theorem exN_le (E : Option ByteArray) : exN E ≤ 16384 := by cases E <;> simp [exN]
/-- a disk that is right: of one extent of this name, or none -/
structure Good (S : Nat) (nm : ByteArray) (E : Option ByteArray) (ws : List (Nat × ByteArray)) : Prop where
  size : S ≤ 16384
  name : isNm nm = true
  ext : ∀ D, E = some D → ∃ m, D.size = 64 * m ∧ 1 ≤ m ∧ m ≤ S
  few : ws.length ≤ 16384
  wts : ∀ p ∈ ws, ∃ D, E = some D ∧ 64 * p.1 + 64 ≤ D.size ∧ p.2.size = 64
theorem RowAt.one {w : World} {v : Value} {nm D : ByteArray} (h : RowAt w v (exN (some D)) (exC nm (some D))) : ∃ g cap, v = .slice (some ⟨g, 0, none⟩) 1 cap ∧ w.cell? ⟨g, 0, none⟩ = some (.string nm) ∧ w.cell? ⟨g, 1, none⟩ = some (.string D) := by
  obtain ⟨a, cap, rfl, h2⟩ := h
  obtain ⟨g, rfl, h3⟩ := h2 0 _ rfl
  obtain ⟨g2, e, h4⟩ := h2 1 _ rfl
  injection e with e
  injection e with e
  subst e
  exact ⟨g, cap, rfl, h3, h4⟩
theorem extents_any {S : Nat} {nm : ByteArray} {E : Option ByteArray} {ws : List (Nat × ByteArray)} (hG : Good S nm E ws) (ev : Value) (w : World) (he : RowAt w ev (exN E) (exC nm E)) :
    Calls Tryz.prog 45 #[ev, .int .i64 (S : Nat)] w fun e w' => e = .returned (.bool true) ∧ Hid (w.grownBy w' none) := by
  cases E with
  | none =>
    obtain ⟨a, c, h1, _⟩ := he
    exact (extents_none ev ⟨a, c, h1⟩ S w).mono fun e w' ⟨h2, h3⟩ => ⟨h2, by subst h3; exact grown_self _ _⟩
  | some D =>
    obtain ⟨g, cap, rfl, c0, c1⟩ := he.one
    obtain ⟨m, h1, h2, h3⟩ := hG.ext D rfl
    exact extents_one g cap nm D m S hG.name h1 h2 h3 hG.size w c0 c1
end Go.Proofs.YtihohljhjdmamaaGreat
