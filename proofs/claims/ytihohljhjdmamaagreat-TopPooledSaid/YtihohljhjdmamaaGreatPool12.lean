/- pool: Unpin, pinned, Look of an arena; Look. -/
import Derived.Test.YtihohljhjdmamaaGreatPool11
namespace Go.Proofs.YtihohljhjdmamaaGreat
open Go.RowKit
set_option linter.unusedVariables false

theorem frsC_set1 (nm D : ByteArray) (fs : List (Nat × Nat)) (k q : Nat) (f f' : Nat × Nat) (u : Value) (hf : fs[k]? = some f) (hq : q < 7) (hu : (frC nm D f).set q u = frC nm D f') : (frsC nm D fs).set (k * 7 + q) u = frsC nm D (fs.set k f') := by
  have hk := (List.getElem?_eq_some_iff.1 hf).1
  apply List.ext_getElem?
  intro j
  rw [List.getElem?_set]
  have hl := frsC_length nm D fs
  have hl2 := frsC_length nm D (fs.set k f')
  rw [List.length_set] at hl2
  rcases Nat.lt_or_ge j (fs.length * 7) with h | h
  · have hi : j / 7 < fs.length := by omega
    have h2 := frsC_get nm D fs (j / 7) fs[j / 7] (List.getElem?_eq_getElem hi) (j % 7) (Nat.mod_lt _ (by decide))
    rw [show j / 7 * 7 + j % 7 = j by omega] at h2
    by_cases hjk : j / 7 = k
    · have h1 := frsC_get nm D (fs.set k f') k f' (by rw [List.getElem?_set_self hk]) (j % 7) (Nat.mod_lt _ (by decide))
      rw [← hu, show k * 7 + j % 7 = j by omega, List.getElem?_set] at h1
      rw [h1]
      have hfe : fs[j / 7] = f := by
        have : fs[j / 7]? = some f := by rw [hjk]; exact hf
        rw [List.getElem?_eq_getElem hi] at this
        exact Option.some.inj this
      rw [hfe] at h2
      by_cases hqj : q = j % 7
      · rw [if_pos (by omega), if_pos (by omega), if_pos hqj, if_pos (by rw [frC_length]; exact hq)]
      · rw [if_neg (by omega), if_neg hqj, h2]
    · have h1 := frsC_get nm D (fs.set k f') (j / 7) fs[j / 7] (by rw [List.getElem?_set_ne (fun e => hjk e.symm), List.getElem?_eq_getElem hi]) (j % 7) (Nat.mod_lt _ (by decide))
      rw [show j / 7 * 7 + j % 7 = j by omega] at h1
      rw [if_neg (by omega), h1, h2]
  · rw [if_neg (by omega), List.getElem?_eq_none (by omega), List.getElem?_eq_none (by omega)]

set_option maxRecDepth 100000 in
set_option maxHeartbeats 4000000 in
theorem aunpin_any {B a b S T R k t p : Nat} {nm D : ByteArray} {fs : List (Nat × Nat)} (hf : fs[k]? = some (t, p + 1)) (hl : fs.length ≤ 256) (hp : p ≤ 256) (w : World) (hB : B ≤ w.heap.size) (h : ArAt w B a b S nm D fs T R) :
    Calls Tryz.prog 28 #[.pointer (some ⟨a, 0, none⟩), .int .i64 (k : Nat)] w fun e w' => e = .returned (.int .i64 0) ∧ Hid (ArAt w' B a b S nm D (fs.set k (t, p)) T R) ∧ Hid (Below B w w') := by
  have hk := (List.getElem?_eq_some_iff.1 hf).1
  obtain ⟨g, cf, pk, hx⟩ := h.x (by omega) hB
  have hfr := hx.frame k (t, p + 1) hf
  obtain ⟨c0, c1, c2, c3, c4, c5⟩ := hx.cells
  have d3 : w.cell? ⟨g, k * 7 + 3, none⟩ = some (.int .i64 ((p + 1 : Nat) : Int)) := hfr.2.2.2.1
  have f3 := hx.ffree (k * 7 + 3)
  have hfin : Hid (ArAt (w.setCell ⟨g, k * 7 + 3, none⟩ (.int .i64 (p : Int))) B a b S nm D (fs.set k (t, p)) T R ∧ Below B w (w.setCell ⟨g, k * 7 + 3, none⟩ (.int .i64 (p : Int)))) := by
    obtain ⟨h1, h2⟩ := hx.put (k * 7 + 3) (.int .i64 (p : Int))
    exact ⟨h1.at_ (by rw [List.length_set]) (frsC_set1 nm D fs k 3 (t, p + 1) (t, p) _ hf (by omega) rfl), h2⟩
  obtain ⟨n, hn⟩ : ∃ n, n = fs.length := ⟨_, rfl⟩
  rw [← hn] at hk hl c1
  have hki : (k : Int) < (n : Int) := by omega
  have hni : (n : Int) ≤ 256 := by omega
  obtain ⟨p1, hp1⟩ : ∃ p1, p1 = p + 1 := ⟨_, rfl⟩
  rw [← hp1] at d3
  have hp0 : ((p1 : Int) == 0) = false := by simp; omega
  have hw1 : IntKind.i64.wrap ((p1 : Int) - 1) = (p : Int) := by rw [IntWalk.i64_in _ (by omega)]; omega
  have hp1i : (p1 : Int) - 1 = (p : Int) := by omega
  have Hp1i := Lib.hid hp1i
  clear hn hfr hx h hf hp1 hp1i c0 c2 c3 c4 c5
  go_enter Tryz.func28, Tryz.ntmps28
  go_wp2_with fail
  go_ret
  exact ⟨rfl, hfin.out.1, hfin.out.2⟩

set_option maxRecDepth 100000 in
set_option maxHeartbeats 4000000 in
theorem pinned_any {B a b S T R k t p : Nat} {nm D : ByteArray} {fs : List (Nat × Nat)} (hf : fs[k]? = some (t, p + 1)) (hl : fs.length ≤ 256) (w : World) (hB : B ≤ w.heap.size) (h : ArAt w B a b S nm D fs T R) :
    Calls Tryz.prog 25 #[.pointer (some ⟨a, 0, none⟩), .int .i64 (k : Nat), .int .i64 0, .int .i64 0] w fun e w' => e = .returned (.int .i64 0) ∧ w' = w := by
  have hk := (List.getElem?_eq_some_iff.1 hf).1
  obtain ⟨g, cf, pk, hx⟩ := h.x (by omega) hB
  have hfr := hx.frame k (t, p + 1) hf
  obtain ⟨c0, c1, c2, c3, c4, c5⟩ := hx.cells
  have d3 : w.cell? ⟨g, k * 7 + 3, none⟩ = some (.int .i64 ((p + 1 : Nat) : Int)) := hfr.2.2.2.1
  obtain ⟨n, hn⟩ : ∃ n, n = fs.length := ⟨_, rfl⟩
  rw [← hn] at hk hl c1
  have hki : (k : Int) < (n : Int) := by omega
  obtain ⟨p1, hp1⟩ : ∃ p1, p1 = p + 1 := ⟨_, rfl⟩
  rw [← hp1] at d3
  have hp0 : ((p1 : Int) == 0) = false := by simp; omega
  clear hn hfr hx h hf hp1 c0 c2 c3 c4 c5
  go_enter Tryz.func25, Tryz.ntmps25
  go_wp2_with fail
  go_ret
  exact ⟨rfl, rfl⟩
set_option maxRecDepth 100000 in
set_option maxHeartbeats 4000000 in
theorem alook_any {B a b S T R k : Nat} {nm D : ByteArray} {fs : List (Nat × Nat)} {f : Nat × Nat} (hf : fs[k]? = some f) (hl : fs.length ≤ 256) (w : World) (hB : B ≤ w.heap.size) (h : ArAt w B a b S nm D fs T R) :
    Calls Tryz.prog 26 #[.pointer (some ⟨a, 0, none⟩), .int .i64 (k : Nat)] w fun e w' => e = .returned (.string (datO D f)) ∧ w' = w := by
  have hk := (List.getElem?_eq_some_iff.1 hf).1
  obtain ⟨g, cf, pk, hx⟩ := h.x (by omega) hB
  have hfr := hx.frame k f hf
  obtain ⟨c0, c1, c2, c3, c4, c5⟩ := hx.cells
  have d2 := hfr.2.2.1
  obtain ⟨n, hn⟩ : ∃ n, n = fs.length := ⟨_, rfl⟩
  rw [← hn] at hk hl c1
  have hki : (k : Int) < (n : Int) := by omega
  clear hn hfr hx h hf c0 c2 c3 c4 c5
  go_enter Tryz.func26, Tryz.ntmps26
  go_wp2_with fail
  go_ret
  exact ⟨rfl, rfl⟩
end Go.Proofs.YtihohljhjdmamaaGreat
