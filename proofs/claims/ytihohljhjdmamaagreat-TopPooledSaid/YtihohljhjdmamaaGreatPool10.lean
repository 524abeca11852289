/- pool: busy; a frame's cells stored. -/
import Derived.Test.YtihohljhjdmamaaGreatPool9
import Derived.Laws.OwnMore
namespace Go.Proofs.YtihohljhjdmamaaGreat
open Go.RowKit
set_option linter.unusedVariables false

theorem ArAt.grown {w w' : World} {B a b S T R : Nat} {nm D : ByteArray} {fs : List (Nat × Nat)} (h : ArAt w B a b S nm D fs T R) (hg : w.grownBy w' none) : ArAt w' B a b S nm D fs T R := by
  obtain ⟨af, cf, pk, h1, h2⟩ := h.at_
  exact ⟨h.low, h.dev.grown hg, af, cf, pk, row_kept h1 hg (by simp), own_keep h2 hg (Nat.le_refl _)⟩
/-- an arena's cells and frames, in whatever world behind -/
theorem ArAt.form {w : World} {B a b S T R : Nat} {nm D : ByteArray} {fs : List (Nat × Nat)} (h : ArAt w B a b S nm D fs T R) : ∃ af cf pk, fs.length ≤ cf ∧ w.ownsRow B 106 7 (.slice af fs.length cf) fs.length (frsC nm D fs) ∧ w.heap[a]? = some (.cells #[.pointer (some ⟨b, 0, none⟩), .slice af fs.length cf, .int .u64 (T : Nat), .int .u64 (R : Nat), .int .u64 0, .int .i64 pk] 100 (0, 0)) ∧
    (∀ W, w.grownBy W none → W.cell? ⟨a, 0, none⟩ = some (.pointer (some ⟨b, 0, none⟩)) ∧ W.cell? ⟨a, 1, none⟩ = some (.slice af fs.length cf) ∧ W.cell? ⟨a, 2, none⟩ = some (.int .u64 (T : Nat)) ∧ W.cell? ⟨a, 3, none⟩ = some (.int .u64 (R : Nat)) ∧ W.cell? ⟨a, 4, none⟩ = some (.int .u64 0) ∧ W.cell? ⟨a, 5, none⟩ = some (.int .i64 pk) ∧ ∀ i, W.frozen? ⟨a, i, none⟩ = false) ∧
    (∀ W, w.grownBy W none → ∀ i, i < fs.length → ∃ g f, af = some ⟨g, 0, none⟩ ∧ fs[i]? = some f ∧ FrAt W nm D g i f) := by
  obtain ⟨af, cf, pk, h1, h2⟩ := h.at_
  have hf : FrsAt w nm D (.slice af fs.length cf) fs := RowAt.of_owns h2
  obtain ⟨a', c', heq, hc⟩ := hf.form
  injection heq with e1 _ e2
  subst e1
  refine ⟨af, cf, pk, own_cap h2, h2, h1, fun W hW => ?_, hc⟩
  have h3 := row_kept h1 hW (by simp)
  exact ⟨row_cell h3 0 _ rfl, row_cell h3 1 _ rfl, row_cell h3 2 _ rfl, row_cell h3 3 _ rfl, row_cell h3 4 _ rfl, row_cell h3 5 _ rfl, fun i => row_free h3 i⟩

set_option maxRecDepth 100000 in
set_option maxHeartbeats 4000000 in
theorem busy_any {B a b S T R : Nat} {nm D : ByteArray} {fs : List (Nat × Nat)} (hn : isNm nm = true) (hok : ∀ f ∈ fs, FrOk f) (hl : fs.length ≤ 256) (w : World) (h : ArAt w B a b S nm D fs T R) :
    Calls Tryz.prog 75 #[.pointer (some ⟨a, 0, none⟩)] w fun e w' => ∃ k : Nat, k ≤ 256 ∧ e = .returned (.int .i64 (k : Nat)) ∧ Hid (w.grownBy w' none) := by
  obtain ⟨af, cf, pk, _, _, _, hca, hcf⟩ := h.form
  have HF : Hid (∀ (W : World) (f : Nat × Nat), f ∈ fs → Calls Tryz.prog 74 #[frV nm D f] W fun e w' => e = .returned (.bool (f.1 == 0)) ∧ Hid (W.grownBy w' none)) := fun W f hf => free_any f (hok f hf) hn W
  have HCf := Lib.hid hcf
  obtain ⟨a0, a1, a2, a3, a4, a5, a6⟩ := hca w (grown_self _ _)
  obtain ⟨n, hn⟩ : ∃ n, n = fs.length := ⟨_, rfl⟩
  rw [← hn] at HCf hl a1
  have hni : (n : Int) ≤ 256 := by omega
  clear hn hca hcf h hok a0 a2 a3 a4 a5 a6
  go_enter Tryz.func75, Tryz.ntmps75
  go_wp2_with fail
  clear a1
  go_loopw [3, 11] (fun sv iv wr => ∃ i k : Nat, iv = .int .i64 (i : Nat) ∧ i ≤ n ∧ sv = .int .i64 (k : Nat) ∧ k ≤ i ∧ Hid (w.grownBy wr none)) (fun _ iv _ => n - (intOf iv).toNat)
  case atStart => exact ⟨0, 0, rfl, Nat.zero_le _, rfl, Nat.le_refl _, grown_self _ _⟩
  case round =>
    obtain ⟨i, k, rfl, hi, rfl, hk, hg⟩ := hrel
    have hki : (k : Int) ≤ 256 := by omega
    by_cases hlt : i < n
    · obtain ⟨g, f, rfl, hf, c0, c1, c2, c3, c4, c5, c6⟩ := HCf.out wr hg.out i hlt
      have hii : (i : Int) < (n : Int) := by omega
      have HF1 := Lib.hid (HF.out (wr.alloc (.cells (frC nm D f).toArray 106)) f (List.mem_of_getElem? hf))
      have gf : Hid (wr.grownBy (wr.alloc (.cells (frC nm D f).toArray 106)) none) := World.grownBy_alloc wr _ none
      unfold frV heldF frC at *
      clear hf
      go_wp2_with fail
      (with_reducible refine HF1.out.mono ?_)
      rintro e w2 ⟨rfl, hg2⟩
      clear c0 c1 c2 c3 c4 c5 c6
      by_cases hz : f.1 = 0
      · have hzb : (f.1 == 0) = true := by simpa using hz
        rw [hzb]
        clear hzb hz
        simp only []
        go_wp2_with fail
        exact ⟨⟨i + 1, k, by rw [Int.natCast_add]; rfl, by omega, rfl, by omega, grown_trans hg.out (grown_trans gf.out hg2.out)⟩, by simp [intOf]; omega⟩
      · have hzb : (f.1 == 0) = false := by simpa using hz
        rw [hzb]
        clear hzb hz
        simp only []
        go_wp2_with fail
        exact ⟨⟨i + 1, k + 1, by rw [Int.natCast_add]; rfl, by omega, by rw [Int.natCast_add]; rfl, by omega, grown_trans hg.out (grown_trans gf.out hg2.out)⟩, by simp [intOf]; omega⟩
    · obtain rfl : i = n := by omega
      go_wp2_with fail
      go_ret
      exact ⟨k, by omega, rfl, hg⟩

/-! ### a frame is stored -/
theorem frsC_put (nm D : ByteArray) (fs : List (Nat × Nat)) (k : Nat) (f : Nat × Nat) (hk : k < fs.length) (x0 x1 x2 x3 x4 x5 x6 : Value) (hx : frC nm D f = [x0, x1, x2, x3, x4, x5, x6]) :
    (((((((frsC nm D fs).set (k * 7) x0).set (k * 7 + 1) x1).set (k * 7 + 2) x2).set (k * 7 + 3) x3).set (k * 7 + 4) x4).set (k * 7 + 5) x5).set (k * 7 + 6) x6 = frsC nm D (fs.set k f) := by
  apply List.ext_getElem?
  intro j
  simp only [List.getElem?_set, List.length_set]
  have hl := frsC_length nm D fs
  have hl2 := frsC_length nm D (fs.set k f)
  rw [List.length_set] at hl2
  rcases Nat.lt_or_ge j (fs.length * 7) with h | h
  · have hi : j / 7 < fs.length := by omega
    by_cases hjk : j / 7 = k
    · have h1 := frsC_get nm D (fs.set k f) k f (by rw [List.getElem?_set_self hk]) (j % 7) (Nat.mod_lt _ (by decide))
      rw [hx, show k * 7 + j % 7 = j by omega] at h1
      rw [h1]
      have hq : j % 7 < 7 := Nat.mod_lt _ (by decide)
      have hj : j = k * 7 + j % 7 := by omega
      generalize j % 7 = q at hq hj
      subst hj
      match q, hq with
      | 0, _ => simp; omega
      | 1, _ => simp; omega
      | 2, _ => simp; omega
      | 3, _ => simp; omega
      | 4, _ => simp; omega
      | 5, _ => simp; omega
      | 6, _ => simp; omega
      | q + 7, h => omega
    · have h1 := frsC_get nm D (fs.set k f) (j / 7) fs[j / 7] (by rw [List.getElem?_set_ne (fun e => hjk e.symm), List.getElem?_eq_getElem hi]) (j % 7) (Nat.mod_lt _ (by decide))
      have h2 := frsC_get nm D fs (j / 7) fs[j / 7] (List.getElem?_eq_getElem hi) (j % 7) (Nat.mod_lt _ (by decide))
      rw [show j / 7 * 7 + j % 7 = j by omega] at h1 h2
      rw [if_neg (by omega), if_neg (by omega), if_neg (by omega), if_neg (by omega), if_neg (by omega), if_neg (by omega), if_neg (by omega), h1, h2]
  · rw [if_neg (by omega), if_neg (by omega), if_neg (by omega), if_neg (by omega), if_neg (by omega), if_neg (by omega), if_neg (by omega), List.getElem?_eq_none (by omega), List.getElem?_eq_none (by omega)]
end Go.Proofs.YtihohljhjdmamaaGreat
