/- pool: frames, and what is asked of one. -/
import Derived.Test.YtihohljhjdmamaaGreatKept5
import Derived.Test.YtihohljhjdmamaaGreatBegins
import Derived.Laws.StructEq
import Derived.IntWalk
namespace Go.Proofs.YtihohljhjdmamaaGreat
open Go.RowKit
set_option linter.unusedVariables false

/-- a sector's bytes -/
def sec (D : ByteArray) (t : Nat) : ByteArray := D.extract (64 * t) (64 * t + 64)
def nmO (nm : ByteArray) (f : Nat × Nat) : ByteArray := if f.1 = 0 then ⟨#[]⟩ else nm
def datO (D : ByteArray) (f : Nat × Nat) : ByteArray := if f.1 = 0 then ⟨#[]⟩ else sec D f.1
/-- a frame's cells: it holds sector t, that was pinned last at tick t, p times; t = 0: it is free -/
def frC (nm D : ByteArray) (f : Nat × Nat) : List Value := [.string (nmO nm f), .int .i64 (f.1 : Nat), .string (datO D f), .int .i64 (f.2 : Nat), .bool false, .int .u64 (f.1 : Nat), .bool false]
theorem frC_length (nm D : ByteArray) (f : Nat × Nat) : (frC nm D f).length = 7 := rfl
/-- a free frame is none pinned -/
def FrOk (f : Nat × Nat) : Prop := f.1 = 0 → f.2 = 0
def zeroF : Value := .agg #[.string ⟨#[]⟩, .int .i64 0, .string ⟨#[]⟩, .int .i64 0, .bool false, .int .u64 0, .bool false]
/-- a frame that holds -/
def heldF (nm d : ByteArray) (t p : Nat) : Value := .agg #[.string nm, .int .i64 (t : Nat), .string d, .int .i64 (p : Nat), .bool false, .int .u64 (t : Nat), .bool false]
def frV (nm D : ByteArray) (f : Nat × Nat) : Value := heldF (nmO nm f) (datO D f) f.1 f.2
theorem frV_free {nm D : ByteArray} {f : Nat × Nat} (h : f.1 = 0) (hk : FrOk f) : frV nm D f = zeroF := by
  unfold frV nmO datO
  rw [if_pos h, if_pos h, h, hk h]
  rfl
theorem frV_held {nm D : ByteArray} {f : Nat × Nat} (h : f.1 ≠ 0) : frV nm D f = heldF nm (sec D f.1) f.1 f.2 := by
  unfold frV nmO datO
  rw [if_neg h, if_neg h]

set_option maxRecDepth 100000 in
set_option maxHeartbeats 1000000 in
theorem holds_no (w : World) : Calls Tryz.prog 52 #[zeroF] w fun e w' => e = .returned (.bool false) ∧ Hid (w.grownBy w' none) := by
  unfold zeroF
  have hg := Lib.hid (World.grownBy_alloc w (.cells #[.string ⟨#[]⟩, .int .i64 0, .string ⟨#[]⟩, .int .i64 0, .bool false, .int .u64 0, .bool false] 106) none)
  go_enter Tryz.func52, Tryz.ntmps52
  go_wp2_with fail
  go_ret
  exact ⟨rfl, hg⟩
set_option maxRecDepth 100000 in
set_option maxHeartbeats 1000000 in
theorem holds_yes (nm d : ByteArray) (t p : Nat) (hn : isNm nm = true) (w : World) : Calls Tryz.prog 52 #[heldF nm d t p] w fun e w' => e = .returned (.bool true) ∧ Hid (w.grownBy w' none) := by
  unfold heldF
  have h1 := isNm_ne hn
  have hg := Lib.hid (World.grownBy_alloc w (.cells #[.string nm, .int .i64 (t : Nat), .string d, .int .i64 (p : Nat), .bool false, .int .u64 (t : Nat), .bool false] 106) none)
  clear hn
  go_enter Tryz.func52, Tryz.ntmps52
  go_wp2_with fail
  go_ret
  exact ⟨rfl, hg⟩
set_option maxRecDepth 100000 in
set_option maxHeartbeats 1000000 in
theorem free_yes (w : World) : Calls Tryz.prog 74 #[zeroF] w fun e w' => e = .returned (.bool true) ∧ Hid (w.grownBy w' none) := by
  unfold zeroF
  have hg := Lib.hid (World.grownBy_alloc w (.cells #[.string ⟨#[]⟩, .int .i64 0, .string ⟨#[]⟩, .int .i64 0, .bool false, .int .u64 0, .bool false] 106) none)
  go_enter Tryz.func74, Tryz.ntmps74
  go_wp2_with fail
  go_ret
  exact ⟨rfl, hg⟩
set_option maxRecDepth 100000 in
set_option maxHeartbeats 1000000 in
theorem free_no (nm d : ByteArray) (t p : Nat) (hn : isNm nm = true) (w : World) : Calls Tryz.prog 74 #[heldF nm d t p] w fun e w' => e = .returned (.bool false) ∧ Hid (w.grownBy w' none) := by
  unfold heldF
  have h1 := isNm_ne hn
  have hg := Lib.hid (World.grownBy_alloc w (.cells #[.string nm, .int .i64 (t : Nat), .string d, .int .i64 (p : Nat), .bool false, .int .u64 (t : Nat), .bool false] 106) none)
  clear hn
  go_enter Tryz.func74, Tryz.ntmps74
  go_wp2_with fail
  go_ret
  exact ⟨rfl, hg⟩

/-! ### any frame -/
theorem holds_any {nm D : ByteArray} (f : Nat × Nat) (hk : FrOk f) (hn : isNm nm = true) (w : World) : Calls Tryz.prog 52 #[frV nm D f] w fun e w' => e = .returned (.bool (!(f.1 == 0))) ∧ Hid (w.grownBy w' none) := by
  by_cases h : f.1 = 0
  · rw [frV_free h hk, h]
    exact holds_no w
  · rw [frV_held h, show (f.1 == 0) = false by simpa using h]
    exact holds_yes nm _ _ _ hn w
theorem free_any {nm D : ByteArray} (f : Nat × Nat) (hk : FrOk f) (hn : isNm nm = true) (w : World) : Calls Tryz.prog 74 #[frV nm D f] w fun e w' => e = .returned (.bool (f.1 == 0)) ∧ Hid (w.grownBy w' none) := by
  by_cases h : f.1 = 0
  · rw [frV_free h hk, h]
    exact free_yes w
  · rw [frV_held h, show (f.1 == 0) = false by simpa using h]
    exact free_no nm _ _ _ hn w
theorem row7 {w : World} {b : Nat} {x y z u v r s : Value} {t : TypeId} (h : w.heap[b]? = some (.cells #[x, y, z, u, v, r, s] t (0, 0))) :
    (w.cell? ⟨b, 0, none⟩ = some x ∧ w.cell? ⟨b, 1, none⟩ = some y ∧ w.cell? ⟨b, 2, none⟩ = some z ∧ w.cell? ⟨b, 3, none⟩ = some u ∧ w.cell? ⟨b, 4, none⟩ = some v ∧ w.cell? ⟨b, 5, none⟩ = some r ∧ w.cell? ⟨b, 6, none⟩ = some s) ∧ ∀ i, w.frozen? ⟨b, i, none⟩ = false :=
  ⟨⟨row_cell h 0 _ rfl, row_cell h 1 _ rfl, row_cell h 2 _ rfl, row_cell h 3 _ rfl, row_cell h 4 _ rfl, row_cell h 5 _ rfl, row_cell h 6 _ rfl⟩, fun i => row_free h i⟩

set_option maxRecDepth 100000 in
set_option maxHeartbeats 2000000 in
theorem idle_held (nm d : ByteArray) (t : Nat) (hn : isNm nm = true) (w : World) : Calls Tryz.prog 76 #[heldF nm d t 0] w fun e w' => e = .returned (.bool true) ∧ Hid (w.grownBy w' none) := by
  have HF := Lib.hid (fun w => free_no nm d t 0 hn w)
  have HH := Lib.hid (fun w => holds_yes nm d t 0 hn w)
  unfold heldF at *
  clear hn
  have hg := Lib.hid (World.grownBy_alloc w (.cells #[.string nm, .int .i64 (t : Nat), .string d, .int .i64 ((0 : Nat) : Nat), .bool false, .int .u64 (t : Nat), .bool false] 106) none)
  have hq := Lib.hid (fun W (hW : (w.alloc (.cells #[.string nm, .int .i64 (t : Nat), .string d, .int .i64 ((0 : Nat) : Nat), .bool false, .int .u64 (t : Nat), .bool false] 106)).grownBy W none) => (row7 (row_kept (heap_alloc_new w (.cells #[.string nm, .int .i64 (t : Nat), .string d, .int .i64 ((0 : Nat) : Nat), .bool false, .int .u64 (t : Nat), .bool false] 106)) hW (by simp))).1)
  go_enter Tryz.func76, Tryz.ntmps76
  go_wp2_with (first
    | (go_at_call 74; refine (HF.out _).mono ?_; rintro e w1 ⟨rfl, hg1⟩; obtain ⟨c0, c1, c2, c3, c4, c5, c6⟩ := hq.out w1 hg1.out)
    | (go_at_call 52; refine (HH.out _).mono ?_; rintro e w2 ⟨rfl, hg2⟩; clear c0 c1 c2 c3 c4 c5 c6; obtain ⟨c0, c1, c2, c3, c4, c5, c6⟩ := hq.out w2 (grown_trans hg1.out hg2.out))
    | fail)
  go_ret
  exact ⟨rfl, grown_trans hg.out (grown_trans hg1.out hg2.out)⟩
/-- two frames, boxed -/
theorem two_frames (w : World) (x y : Array Value) (t : TypeId) : w.grownBy ((w.alloc (.cells x t)).alloc (.cells y t)) none ∧ ∀ W, ((w.alloc (.cells x t)).alloc (.cells y t)).grownBy W none → W.heap[w.heap.size]? = some (.cells x t (0, 0)) ∧ W.heap[w.heap.size + 1]? = some (.cells y t (0, 0)) := by
  obtain ⟨h1, h2, _⟩ := two_blocks w (.cells x t) (.cells y t)
  exact ⟨grown_trans (World.grownBy_alloc _ _ _) (World.grownBy_alloc _ _ _), fun W hW => ⟨row_kept h1 hW (by simp), row_kept h2 hW (by simp)⟩⟩
set_option maxRecDepth 100000 in
set_option maxHeartbeats 2000000 in
theorem like_no1 (nm d : ByteArray) (t p : Nat) (hn : isNm nm = true) (w : World) : Calls Tryz.prog 72 #[heldF nm d t p, zeroF] w fun e w' => e = .returned (.bool false) ∧ Hid (w.grownBy w' none) := by
  have HH := Lib.hid (fun w => holds_yes nm d t p hn w)
  have HN := Lib.hid (fun w => holds_no w)
  unfold heldF zeroF at *
  clear hn
  obtain ⟨hg, hq⟩ := two_frames w #[.string nm, .int .i64 (t : Nat), .string d, .int .i64 (p : Nat), .bool false, .int .u64 (t : Nat), .bool false] #[.string ⟨#[]⟩, .int .i64 0, .string ⟨#[]⟩, .int .i64 0, .bool false, .int .u64 0, .bool false] 106
  have Hg := Lib.hid hg
  have Hq := Lib.hid (fun W hW => And.intro (row7 (hq W hW).1).1 (row7 (hq W hW).2).1)
  clear hg hq
  obtain ⟨⟨a0, a1, a2, a3, a4, a5, a6⟩, b0, b1, b2, b3, b4, b5, b6⟩ := Hq.out _ (grown_self _ _)
  go_enter Tryz.func72, Tryz.ntmps72
  go_wp2_with fail
  refine (HH.out _).mono ?_
  rintro e w1 ⟨rfl, hg1⟩
  clear a0 a1 a2 a3 a4 a5 a6 b0 b1 b2 b3 b4 b5 b6
  obtain ⟨⟨a0, a1, a2, a3, a4, a5, a6⟩, b0, b1, b2, b3, b4, b5, b6⟩ := Hq.out _ hg1.out
  simp only []
  go_wp2_with fail
  refine (HN.out _).mono ?_
  rintro e w2 ⟨rfl, hg2⟩
  simp only []
  go_wp2_with fail
  go_ret
  exact ⟨rfl, grown_trans Hg.out (grown_trans hg1.out hg2.out)⟩
set_option maxRecDepth 100000 in
set_option maxHeartbeats 2000000 in
theorem like_no2 (nm d : ByteArray) (t p : Nat) (w : World) : Calls Tryz.prog 72 #[zeroF, heldF nm d t p] w fun e w' => e = .returned (.bool false) ∧ Hid (w.grownBy w' none) := by
  have HN := Lib.hid (fun w => holds_no w)
  unfold heldF zeroF at *
  obtain ⟨hg, hq⟩ := two_frames w #[.string ⟨#[]⟩, .int .i64 0, .string ⟨#[]⟩, .int .i64 0, .bool false, .int .u64 0, .bool false] #[.string nm, .int .i64 (t : Nat), .string d, .int .i64 (p : Nat), .bool false, .int .u64 (t : Nat), .bool false] 106
  have Hg := Lib.hid hg
  obtain ⟨⟨a0, a1, a2, a3, a4, a5, a6⟩, hfr⟩ := row7 (hq _ (grown_self _ _)).1
  clear hg hq hfr
  go_enter Tryz.func72, Tryz.ntmps72
  go_wp2_with fail
  refine (HN.out _).mono ?_
  rintro e w1 ⟨rfl, hg1⟩
  simp only []
  go_wp2_with fail
  go_ret
  exact ⟨rfl, grown_trans Hg.out hg1.out⟩
set_option maxRecDepth 100000 in
set_option maxHeartbeats 2000000 in
theorem like_no4 (w : World) : Calls Tryz.prog 72 #[zeroF, zeroF] w fun e w' => e = .returned (.bool false) ∧ Hid (w.grownBy w' none) := by
  have HN := Lib.hid (fun w => holds_no w)
  unfold zeroF at *
  obtain ⟨hg, hq⟩ := two_frames w #[.string ⟨#[]⟩, .int .i64 0, .string ⟨#[]⟩, .int .i64 0, .bool false, .int .u64 0, .bool false] #[.string ⟨#[]⟩, .int .i64 0, .string ⟨#[]⟩, .int .i64 0, .bool false, .int .u64 0, .bool false] 106
  have Hg := Lib.hid hg
  obtain ⟨⟨a0, a1, a2, a3, a4, a5, a6⟩, hfr⟩ := row7 (hq _ (grown_self _ _)).1
  clear hg hq hfr
  go_enter Tryz.func72, Tryz.ntmps72
  go_wp2_with fail
  refine (HN.out _).mono ?_
  rintro e w1 ⟨rfl, hg1⟩
  simp only []
  go_wp2_with fail
  go_ret
  exact ⟨rfl, grown_trans Hg.out hg1.out⟩
set_option maxRecDepth 100000 in
set_option maxHeartbeats 2000000 in
theorem like_no3 (nm d d' : ByteArray) (t t' p p' : Nat) (hn : isNm nm = true) (ht : t ≠ t') (w : World) : Calls Tryz.prog 72 #[heldF nm d t p, heldF nm d' t' p'] w fun e w' => e = .returned (.bool false) ∧ Hid (w.grownBy w' none) := by
  have HH := Lib.hid (fun w => holds_yes nm d t p hn w)
  have HN := Lib.hid (fun w => holds_yes nm d' t' p' hn w)
  unfold heldF at *
  have hti : ((t : Int) == (t' : Int)) = false := by simp; omega
  clear hn ht
  obtain ⟨hg, hq⟩ := two_frames w #[.string nm, .int .i64 (t : Nat), .string d, .int .i64 (p : Nat), .bool false, .int .u64 (t : Nat), .bool false] #[.string nm, .int .i64 (t' : Nat), .string d', .int .i64 (p' : Nat), .bool false, .int .u64 (t' : Nat), .bool false] 106
  have Hg := Lib.hid hg
  have Hq := Lib.hid (fun W hW => And.intro (row7 (hq W hW).1).1 (row7 (hq W hW).2).1)
  clear hg hq
  obtain ⟨⟨a0, a1, a2, a3, a4, a5, a6⟩, b0, b1, b2, b3, b4, b5, b6⟩ := Hq.out _ (grown_self _ _)
  go_enter Tryz.func72, Tryz.ntmps72
  go_wp2_with fail
  refine (HH.out _).mono ?_
  rintro e w1 ⟨rfl, hg1⟩
  clear a0 a1 a2 a3 a4 a5 a6 b0 b1 b2 b3 b4 b5 b6
  obtain ⟨⟨a0, a1, a2, a3, a4, a5, a6⟩, b0, b1, b2, b3, b4, b5, b6⟩ := Hq.out _ hg1.out
  simp only []
  go_wp2_with fail
  refine (HN.out _).mono ?_
  rintro e w2 ⟨rfl, hg2⟩
  clear a0 a1 a2 a3 a4 a5 a6 b0 b1 b2 b3 b4 b5 b6
  obtain ⟨⟨a0, a1, a2, a3, a4, a5, a6⟩, b0, b1, b2, b3, b4, b5, b6⟩ := Hq.out _ (grown_trans hg1.out hg2.out)
  simp only []
  go_wp2_with fail
  go_ret
  exact ⟨rfl, grown_trans Hg.out (grown_trans hg1.out hg2.out)⟩

/-- two frames that hold other sectors, or none, are not alike -/
theorem like_any {nm D : ByteArray} (f g : Nat × Nat) (hkf : FrOk f) (hkg : FrOk g) (hn : isNm nm = true) (h : f.1 = 0 ∨ g.1 = 0 ∨ f.1 ≠ g.1) (w : World) : Calls Tryz.prog 72 #[frV nm D f, frV nm D g] w fun e w' => e = .returned (.bool false) ∧ Hid (w.grownBy w' none) := by
  by_cases hf : f.1 = 0
  · rw [frV_free hf hkf]
    by_cases hg : g.1 = 0
    · rw [frV_free hg hkg]; exact like_no4 w
    · rw [frV_held hg]; exact like_no2 nm _ _ _ w
  · rw [frV_held hf]
    by_cases hg : g.1 = 0
    · rw [frV_free hg hkg]; exact like_no1 nm _ _ _ hn w
    · rw [frV_held hg]; exact like_no3 nm _ _ _ _ _ _ hn (by omega) w
theorem idle_any {nm D : ByteArray} (f : Nat × Nat) (hn : isNm nm = true) (hf : f.1 ≠ 0) (hp : f.2 = 0) (w : World) : Calls Tryz.prog 76 #[frV nm D f] w fun e w' => e = .returned (.bool true) ∧ Hid (w.grownBy w' none) := by
  rw [frV_held hf, hp]
  exact idle_held nm _ _ hn w

/-! ### a row of frames -/
def frsC (nm D : ByteArray) : List (Nat × Nat) → List Value
  | [] => []
  | f :: fs => frC nm D f ++ frsC nm D fs
theorem frsC_length (nm D : ByteArray) : ∀ fs, (frsC nm D fs).length = fs.length * 7
  | [] => rfl
  | f :: fs => by rw [frsC, List.length_append, frC_length, frsC_length nm D fs, List.length_cons]; omega
theorem frsC_one (nm D : ByteArray) : ∀ fs, ∀ u ∈ frsC nm D fs, u.oneCell' = true
  | [], u, h => by simp [frsC] at h
  | f :: fs, u, h => by
    rw [frsC] at h
    rcases List.mem_append.1 h with h | h
    · simp [frC] at h
      rcases h with rfl | rfl | rfl | rfl | rfl | rfl | rfl <;> rfl
    · exact frsC_one nm D fs u h
theorem frsC_get (nm D : ByteArray) : ∀ (fs : List (Nat × Nat)) (i : Nat) (f : Nat × Nat), fs[i]? = some f → ∀ q, q < 7 → (frsC nm D fs)[i * 7 + q]? = (frC nm D f)[q]?
  | [], i, f, h, q, hq => by simp at h
  | g :: fs, 0, f, h, q, hq => by
    simp at h
    subst h
    rw [frsC, Nat.zero_mul, Nat.zero_add, List.getElem?_append_left (by rw [frC_length]; exact hq)]
  | g :: fs, i + 1, f, h, q, hq => by
    rw [frsC, List.getElem?_append_right (by rw [frC_length]; omega), frC_length, show (i + 1) * 7 + q - 7 = i * 7 + q by omega]
    exact frsC_get nm D fs i f (by simpa using h) q hq
theorem frsC_take (nm D : ByteArray) : ∀ (fs : List (Nat × Nat)) (i : Nat), frsC nm D (fs.take i) = (frsC nm D fs).take (i * 7)
  | [], i => by simp [frsC]
  | g :: fs, 0 => by simp [frsC]
  | g :: fs, i + 1 => by
    rw [List.take_succ_cons, frsC, frsC, frsC_take nm D fs i, List.take_append, frC_length, List.take_of_length_le (l := frC nm D g) (by rw [frC_length]; omega), show (i + 1) * 7 - 7 = i * 7 by omega]
/-- v is a slice of the frames fs -/
def FrsAt (w : World) (nm D : ByteArray) (v : Value) (fs : List (Nat × Nat)) : Prop := RowAt w v fs.length (frsC nm D fs)
theorem FrsAt.grown {w w' : World} {nm D : ByteArray} {v : Value} {fs : List (Nat × Nat)} (h : FrsAt w nm D v fs) (hg : w.grownBy w' none) : FrsAt w' nm D v fs := RowAt.grown h hg
/-- one frame's cells -/
def FrAt (w : World) (nm D : ByteArray) (g i : Nat) (f : Nat × Nat) : Prop := w.cell? ⟨g, i * 7, none⟩ = some (.string (nmO nm f)) ∧ w.cell? ⟨g, i * 7 + 1, none⟩ = some (.int .i64 (f.1 : Nat)) ∧ w.cell? ⟨g, i * 7 + 2, none⟩ = some (.string (datO D f)) ∧ w.cell? ⟨g, i * 7 + 3, none⟩ = some (.int .i64 (f.2 : Nat)) ∧ w.cell? ⟨g, i * 7 + 4, none⟩ = some (.bool false) ∧ w.cell? ⟨g, i * 7 + 5, none⟩ = some (.int .u64 (f.1 : Nat)) ∧ w.cell? ⟨g, i * 7 + 6, none⟩ = some (.bool false)
theorem FrsAt.form {w : World} {nm D : ByteArray} {v : Value} {fs : List (Nat × Nat)} (h : FrsAt w nm D v fs) : ∃ a cap, v = .slice a fs.length cap ∧ ∀ W, w.grownBy W none → ∀ i, i < fs.length → ∃ g f, a = some ⟨g, 0, none⟩ ∧ fs[i]? = some f ∧ FrAt W nm D g i f := by
  obtain ⟨a, cap, rfl, hc⟩ := h
  refine ⟨a, cap, rfl, fun W hW i hi => ?_⟩
  have hf : fs[i]? = some fs[i] := List.getElem?_eq_getElem hi
  have hq := frsC_get nm D fs i fs[i] hf
  obtain ⟨g, rfl, _⟩ := hc (i * 7 + 0) _ ((hq 0 (by omega)).trans rfl)
  have hall : ∀ q u, q < 7 → (frC nm D fs[i])[q]? = some u → W.cell? ⟨g, i * 7 + q, none⟩ = some u := fun q u h7 hu => by
    obtain ⟨g', h1, h2⟩ := hc (i * 7 + q) u ((hq q h7).trans hu)
    injection h1 with h1
    injection h1 with h1
    subst h1
    exact hW.cell h2 (by simp)
  exact ⟨g, fs[i], rfl, hf, hall 0 _ (by omega) rfl, hall 1 _ (by omega) rfl, hall 2 _ (by omega) rfl, hall 3 _ (by omega) rfl, hall 4 _ (by omega) rfl, hall 5 _ (by omega) rfl, hall 6 _ (by omega) rfl⟩
end Go.Proofs.YtihohljhjdmamaaGreat
