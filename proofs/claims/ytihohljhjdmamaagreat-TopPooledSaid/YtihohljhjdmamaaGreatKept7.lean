/- A disk at work: what is told of it; where an extent lies. -/
import Derived.Test.YtihohljhjdmamaaGreatKept6
import Derived.Deep.Cut
namespace Go.Proofs.YtihohljhjdmamaaGreat
open Go.RowKit
set_option linter.unusedVariables false

theorem own_ne_row {w : World} {B : Nat} {e : TypeId} {size : Nat} {v : Value} {n : Nat} {xs : List Value} (h : w.ownsRow B e size v n xs) {b : Nat} {cs : Array Value} {t : TypeId} {fz : Nat × Nat} (hb : w.heap[b]? = some (.cells cs t fz)) (ht : t ≠ e) : v.ownBlock ≠ some b := by
  intro e1
  rcases h.2 with ⟨h1, _⟩ | ⟨g, cap, cur, h1, _, h3, _⟩
  · rw [h1] at e1; cases e1
  · rw [h1] at e1
    injection e1 with e1
    simp only at e1
    subst e1
    rw [hb] at h3
    injection h3 with h3
    injection h3 with _ h4
    exact ht h4
/-- two rows of different elements lie in different blocks -/
theorem own_apart {w : World} {B B2 : Nat} {e e2 : TypeId} {size size2 : Nat} {v v2 : Value} {n n2 : Nat} {xs xs2 : List Value} (h : w.ownsRow B e size v n xs) (h2 : w.ownsRow B2 e2 size2 v2 n2 xs2) (ht : e2 ≠ e) : v.ownBlock = none ∨ v.ownBlock ≠ v2.ownBlock := by
  rcases h2.2 with ⟨h3, _⟩ | ⟨g, cap, cur, h3, _, h4, _⟩
  · subst h3
    cases hv : v.ownBlock with
    | none => exact .inl rfl
    | some k => exact .inr (by intro e; cases e)
  · right
    have h5 := own_ne_row h h4 ht
    rw [h3]
    exact h5
theorem DevAt.row {w : World} {B b S : Nat} {nm : ByteArray} {E : Option ByteArray} {ws : List (Nat × ByteArray)} (h : DevAt w B b S nm E ws) : b < w.heap.size := by
  obtain ⟨ae, ce, aw, cw, h1, _⟩ := h.at_
  exact row_lt h1
theorem DevAt.grown {w w' : World} {B b S : Nat} {nm : ByteArray} {E : Option ByteArray} {ws : List (Nat × ByteArray)} (h : DevAt w B b S nm E ws) (hg : w.grownBy w' none) : DevAt w' B b S nm E ws := by
  obtain ⟨ae, ce, aw, cw, h1, h2, h3⟩ := h.at_
  exact ⟨h.low, ae, ce, aw, cw, row_kept h1 hg (by simp), own_keep h2 hg (Nat.le_refl _), own_keep h3 hg (Nat.le_refl _)⟩
set_option maxRecDepth 100000 in
set_option maxHeartbeats 2000000 in
theorem make_any (S : Nat) (nm : ByteArray) (hS : S ≤ 16384) (w : World) :
    Calls Tryz.prog 5 #[.int .i64 (S : Nat)] w fun e w' => ∃ v, e = .returned (.tuple #[v, .int .i64 0]) ∧ DskAt w' S nm none [] v ∧ Hid (w.grownBy w' none) := by
  have HS := Lib.hid disk_size
  have g0 := World.grownBy_alloc w (.cells #[.int .i64 0, .slice none 0 0, .slice none 0 0, .int .i64 0, .bool false] 26) none
  have q0 := heap_alloc_new w (.cells #[.int .i64 0, .slice none 0 0, .slice none 0 0, .int .i64 0, .bool false] 26)
  obtain ⟨⟨t0, t1, t2, t3, t4⟩, f0, f1, f2, f3, f4⟩ := row5 q0
  have fq := Lib.hid (row_put5 (.int .i64 (S : Nat)) (.slice none 0 0) (.slice none 0 0) (.int .i64 (-1)) (.bool false) q0)
  have HG := Lib.hid (grown_own g0 fq.out.2 (Nat.le_refl _))
  clear g0 q0
  go_enter Tryz.func5, Tryz.ntmps5
  go_upto_region 1 with (fail)
  generalize w.alloc (.cells #[.int .i64 0, .slice none 0 0, .slice none 0 0, .int .i64 0, .bool false] 26) = W0 at *
  go_wp2_with fail
  refine bodyPost_ret (results_row_tmp (fn := Tryz.f5) (p := 2) (q := 3) (ty := 26) rfl _ _ w.heap.size 26 _ _ _ rfl fq.out.1 Tryz.underlying26 rfl HS.out) rfl ?_
  exact ⟨_, rfl, ⟨_, _, rfl, RowAt.nil _, RowAt.nil _⟩, HG⟩

/-- where an extent is, or is not -/
theorem find_any {S : Nat} {nm : ByteArray} {E : Option ByteArray} (y : ByteArray) (ev : Value) (w : World) (he : RowAt w ev (exN E) (exC nm E)) :
    Calls Tryz.prog 17 #[ev, .string y] w fun e w' => ∃ i : Nat, e = .returned (.tuple #[.int .i64 (i : Nat), .bool (E.isSome && isA nm y)]) ∧ ((E.isSome && isA nm y) = true → i = 0) ∧ Hid (w.grownBy w' none) := by
  cases E with
  | none =>
    obtain ⟨a, c, h1, _⟩ := he
    exact (find_none y ev ⟨a, c, h1⟩ w).mono fun e w' ⟨h2, h3⟩ => ⟨0, h2, fun h => by simp at h, by subst h3; exact grown_self _ _⟩
  | some D =>
    obtain ⟨g, cap, rfl, c0, c1⟩ := he.one
    exact (find_one g cap nm D y w c0 c1).mono fun e w' ⟨h2, h3⟩ => ⟨fI nm y, h2, fun h => fI_of (by simpa using h), h3⟩
set_option maxRecDepth 100000 in
set_option maxHeartbeats 4000000 in
theorem place_ok {B b S m : Nat} {nm D : ByteArray} {ws : List (Nat × ByteArray)} (s : Nat) (hD : D.size = 64 * m) (hs : s < m) (hm : m ≤ 16384) (w : World) (h : DevAt w B b S nm (some D) ws) :
    Calls Tryz.prog 62 #[.pointer (some ⟨b, 0, none⟩), .string nm, .int .i64 (s : Nat)] w fun e w' => e = .returned (.tuple #[.int .i64 0, .int .i64 0]) ∧ Hid (w.grownBy w' none) := by
  obtain ⟨ae, ce, aw, cw, h1, h2, h3⟩ := h.at_
  obtain ⟨g, cap, e1, c0, c1⟩ := (RowAt.of_owns h2).one
  obtain ⟨⟨r0, r1, r2, r3, r4⟩, _⟩ := row5 h1
  have HF := find_one g cap nm D nm w c0 c1
  rw [fI_of (isA_self nm), isA_self] at HF
  have HF' := Lib.hid HF
  have HSc := Lib.hid (fun w => sectors_any nm D m hD hm w)
  rw [e1] at r1
  have hsm : ¬ (m : Int) ≤ (s : Int) := by omega
  clear HF e1 hD h2 h3 h
  go_enter Tryz.func62, Tryz.ntmps62
  go_wp2_with fail
  refine HF'.out.mono ?_
  rintro e w1 ⟨rfl, hg1⟩
  simp only []
  have a1 := hg1.out.cell r1 (by simp)
  have b0 := hg1.out.cell c0 (by simp)
  have b1 := hg1.out.cell c1 (by simp)
  clear r0 r1 r2 r3 r4 c0 c1 h1
  go_wp2_with fail
  refine (HSc.out _).mono ?_
  rintro e w2 ⟨rfl, hg2⟩
  simp only []
  go_wp2_with fail
  go_ret2
  exact ⟨rfl, grown_trans hg1.out hg2.out⟩
/-- a place that there is -/
def plOk (nm : ByteArray) (E : Option ByteArray) (y : ByteArray) (s : Int) : Prop := ∃ D, E = some D ∧ isA nm y = true ∧ 0 ≤ s ∧ 64 * s < (D.size : Int)
set_option maxRecDepth 100000 in
set_option maxHeartbeats 4000000 in
theorem place_bad {B b S : Nat} {nm : ByteArray} {E : Option ByteArray} {ws : List (Nat × ByteArray)} (y : ByteArray) (s : Int) (hE : ∀ D, E = some D → ∃ m, D.size = 64 * m ∧ m ≤ 16384) (hn : ¬ plOk nm E y s) (w : World) (h : DevAt w B b S nm E ws) :
    Calls Tryz.prog 62 #[.pointer (some ⟨b, 0, none⟩), .string y, .int .i64 s] w fun e w' => ∃ c : Int, (c = 1 ∨ c = 3) ∧ e = .returned (.tuple #[.int .i64 0, .int .i64 c]) ∧ Hid (w.grownBy w' none) := by
  obtain ⟨ae, ce, aw, cw, h1, h2, h3⟩ := h.at_
  obtain ⟨⟨r0, r1, r2, r3, r4⟩, _⟩ := row5 h1
  have HF := find_any (S := S) y _ w (RowAt.of_owns h2)
  by_cases hb : (E.isSome && isA nm y) = true
  · obtain ⟨hb1, hb2⟩ : E.isSome = true ∧ isA nm y = true := by simpa using hb
    obtain ⟨D, rfl⟩ := Option.isSome_iff_exists.1 hb1
    obtain ⟨m, hm, hm2⟩ := hE D rfl
    have hs : s < 0 ∨ (m : Int) ≤ s := by
      by_cases h9 : s < 0 ∨ (m : Int) ≤ s
      · exact h9
      · exact absurd ⟨D, rfl, hb2, by omega, by omega⟩ hn
    rw [hb] at HF
    have HF' := Lib.hid HF
    obtain ⟨g, cap, e1, c0, c1⟩ := (RowAt.of_owns h2).one
    have HSc := Lib.hid (fun w => sectors_any nm D m hm hm2 w)
    rw [show exN (some D) = 1 from rfl] at e1 r1 HF'
    rw [e1] at r1 HF'
    clear HF e1 hm hn h2 h3 h hE hb hb1 hb2
    go_enter Tryz.func62, Tryz.ntmps62
    go_wp2_with fail
    refine HF'.out.mono ?_
    rintro e w1 ⟨i, rfl, hi, hg1⟩
    obtain rfl := hi (by trivial)
    simp only []
    have a1 := hg1.out.cell r1 (by simp)
    have b0 := hg1.out.cell c0 (by simp)
    have b1 := hg1.out.cell c1 (by simp)
    clear r0 r1 r2 r3 r4 c0 c1 h1 hi
    by_cases hs0 : s < 0
    · go_wp2_with fail
      go_ret2
      exact ⟨1, .inl rfl, rfl, hg1⟩
    · have hs1 : 0 ≤ s := by omega
      have hs2 : (m : Int) ≤ s := by omega
      clear hs hs0
      go_wp2_with fail
      refine (HSc.out _).mono ?_
      rintro e w2 ⟨rfl, hg2⟩
      simp only []
      go_wp2_with fail
      go_ret2
      exact ⟨1, .inl rfl, rfl, grown_trans hg1.out hg2.out⟩
  · have hb0 : (E.isSome && isA nm y) = false := by simpa using hb
    rw [hb0] at HF
    have HF' := Lib.hid HF
    clear HF hn h2 h3 h hE hb hb0
    go_enter Tryz.func62, Tryz.ntmps62
    go_wp2_with fail
    refine HF'.out.mono ?_
    rintro e w1 ⟨i, rfl, _, hg1⟩
    simp only []
    go_wp2_with fail
    go_ret2
    exact ⟨3, .inr rfl, rfl, hg1⟩
end Go.Proofs.YtihohljhjdmamaaGreat
