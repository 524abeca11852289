/- A sector is written. -/
import Derived.Test.YtihohljhjdmamaaGreatKept8
namespace Go.Proofs.YtihohljhjdmamaaGreat
open Go.RowKit
set_option linter.unusedVariables false

theorem write_fin {B b S : Nat} {nm D d : ByteArray} {s : Nat} {ws : List (Nat × ByteArray)} {ae aw a4 : Option Addr} {ce cw c4 : Nat} {w Wa w4 : World} (hBb : B ≤ b) (hBw : B ≤ w.heap.size)
    (h1 : w.heap[b]? = some (.cells #[.int .i64 (S : Nat), .slice ae 1 ce, .slice aw ws.length cw, .int .i64 (-1), .bool false] 59 (0, 0)))
    (h2 : w.ownsRow B 62 2 (.slice ae 1 ce) 1 [.string nm, .string D]) (h3 : w.ownsRow B 98 3 (.slice aw ws.length cw) ws.length (wsC nm ws))
    (hg : w.grownBy Wa none) (hg4 : Wa.grownBy w4 (Value.ownBlock (.slice aw ws.length cw))) (ho4 : w4.ownsRow B 98 3 (.slice a4 (ws.length + 1) c4) (ws.length + 1) (wsC nm ws ++ [.string nm, .int .i64 (s : Nat), .string d])) :
    DevAt (w4.setCell ⟨b, 2, none⟩ (.slice a4 (ws.length + 1) c4)) B b S nm (some D) (ws ++ [(s, d)]) ∧ Below B w (w4.setCell ⟨b, 2, none⟩ (.slice a4 (ws.length + 1) c4)) := by
  have r1 := row_kept h1 hg (by simp)
  have o2 := own_keep h2 hg (Nat.le_refl _)
  have o3 := own_keep h3 hg (Nat.le_refl _)
  have r4 := row_kept r1 hg4 (own_ne_row o3 r1 (by decide))
  have o4 := World.ownsRow.kept o2 hg4 (own_apart o2 o3 (by decide))
  have gs := grown_setCell w4 ⟨b, 2, none⟩ (.slice a4 (ws.length + 1) c4)
  have hl : (ws ++ [(s, d)]).length = ws.length + 1 := by simp
  have hc : wsC nm (ws ++ [(s, d)]) = wsC nm ws ++ [.string nm, .int .i64 (s : Nat), .string d] := by rw [wsC_append]; rfl
  refine ⟨⟨hBb, ae, ce, a4, c4, ?_, World.ownsRow.kept o4 gs (.inr (own_ne_row o4 r4 (by decide))), ?_⟩, ?_⟩
  · rw [hl]; exact heap_setCell_same w4 b 2 _ _ _ r4
  · rw [hl, hc]; exact World.ownsRow.kept ho4 gs (.inr (own_ne_row ho4 r4 (by decide)))
  exact ((bel_grown hg hBw).grown hg4 (Nat.le_trans hBw hg.size) (fun k hk => (World.ownsRow.lt o3 k hk).1)).grown gs (Nat.le_trans (Nat.le_trans hBw hg.size) hg4.size) (fun k hk => by injection hk with hk; simp only at hk; omega)
set_option maxRecDepth 100000 in
set_option maxHeartbeats 1000000 in
theorem devwrite_ok {B b S m : Nat} {nm D : ByteArray} {ws : List (Nat × ByteArray)} (s : Nat) (d : ByteArray) (hD : D.size = 64 * m) (hs : s < m) (hm : m ≤ 16384) (hd : d.size = 64) (hl : ws.length < 16384) (w : World) (h : DevAt w B b S nm (some D) ws) (hBw : B ≤ w.heap.size) :
    Calls Tryz.prog 39 #[.pointer (some ⟨b, 0, none⟩), .string nm, .int .i64 (s : Nat), .string d] w fun e w' => e = .returned (.int .i64 0) ∧ DevAt w' B b S nm (some D) (ws ++ [(s, d)]) ∧ Below B w w' := by
  have HP := Lib.hid (place_ok s hD hs hm w h)
  have hlow := h.low
  obtain ⟨ae, ce, aw, cw, h1, h2, h3⟩ := h.at_
  rw [show exN (some D) = 1 from rfl] at h1 h2
  obtain ⟨N, hN⟩ : ∃ N, N = ws.length := ⟨_, rfl⟩
  have HF := Lib.hid (fun (Wa w4 : World) a4 c4 hg hg4 ho4 => write_fin (s := s) (d := d) (Wa := Wa) (w4 := w4) (a4 := a4) (c4 := c4) hlow hBw h1 h2 h3 hg hg4 ho4)
  rw [← hN] at h1 h3 hl HF
  have HR := Lib.hid (fun W (hW : w.grownBy W none) => row_kept h1 hW (by simp))
  have H3 := Lib.hid h3
  have HBw := Lib.hid hBw
  have hdi : ((d.size : Nat) : Int) = 64 := by omega
  have hdn : (((d.size : Nat) : Int) != 64) = false := by rw [hdi]; rfl
  have hNe : ((N : Int) == 16384) = false := by simp; omega
  obtain ⟨i, hi, hz0, hz1, hz2⟩ := info_parts wtsInfo
  have H1 : Hid (∀ u ∈ [Value.string nm, Value.int .i64 (s : Nat), Value.string d], u.oneCell' = true) := fun u hu => by
    simp at hu; rcases hu with rfl | rfl | rfl <;> rfl
  have HC : Hid (∀ (W : World) j u, [Value.string nm, Value.int .i64 (s : Nat), Value.string d][j]? = some u → (W.alloc (.cells #[.string nm, .int .i64 (s : Nat), .string d] 98)).cell? ((⟨W.heap.size, 0, none⟩ : Addr).add j) = some u) := fun W j u hj => by
    rw [add_plain, Nat.zero_add]
    have hr := heap_alloc_new W (.cells #[.string nm, .int .i64 (s : Nat), .string d] 98)
    match j, hj with
    | 0, hj => exact row_cell hr 0 u hj
    | 1, hj => exact row_cell hr 1 u hj
    | 2, hj => exact row_cell hr 2 u hj
  have HX := Lib.hid (own_ne_row h3 h1 (by decide))
  have hb1 : Hid (N + 1 ≤ maxLen) := by show _ ≤ _; unfold maxLen; omega
  have hb2 : Hid ((N + 1) * 40 ≤ 140737488355328) := by show _ ≤ _; omega
  clear h h1 h2 h3 hD hs hd hdi hN
  go_enter Tryz.func39, Tryz.ntmps39
  go_wp2_with fail
  refine HP.out.mono ?_
  rintro e w1 ⟨rfl, hg1⟩
  simp only []
  have gA := World.grownBy_alloc w1 (.cells #[.string nm, .int .i64 (s : Nat), .string d] 98) none
  obtain ⟨⟨r0, r1, r2, r3, r4⟩, _⟩ := row5 (HR.out w1 hg1.out)
  have HgA := Lib.hid (grown_trans hg1.out gA)
  have HoA := Lib.hid (own_keep H3.out HgA.out (Nat.le_refl _))
  have HbA := Lib.hid (Nat.le_trans HBw.out HgA.out.size)
  clear gA
  go_wp2_with (first
    | (at_builtin; refine wpList_append_own _ rfl (.tmp 38) (.tmp 43) 24 rfl B 98 i _ 3 40 Tryz.underlying24 hi hz0 hz1 hz2 rfl (by decide) _ N _ rfl HoA.out ⟨w1.heap.size, 0, none⟩ 1 1 [.string nm, .int .i64 (s : Nat), .string d] (by simp [go_sem]) rfl (HC.out w1) H1.out hb1.out hb2.out HbA.out ?_; intro v2 w2 ho2 hg2 _; obtain ⟨a2, c2, rfl, _⟩ := RowAt.of_owns ho2; have HFin := Lib.hid (HF.out _ w2 a2 c2 HgA.out hg2 ho2); have hr2 := row_kept (HR.out _ HgA.out) hg2 HX.out; have hr3 := heap_setCell_same w2 b 2 _ _ (.slice a2 (N + 1) c2) hr2; obtain ⟨⟨t0, t1, t2, t3, t4⟩, f0, f1, f2, _⟩ := row5 hr2; obtain ⟨⟨x0, x1, x2, x3, x4⟩, _⟩ := row5 hr3; clear ho2 hg2 hr2 hr3)
    | fail)
  go_ret
  exact ⟨rfl, HFin.out.1, HFin.out.2⟩
set_option maxRecDepth 100000 in
set_option maxHeartbeats 1000000 in
theorem devwrite_bad {B b S : Nat} {nm : ByteArray} {E : Option ByteArray} {ws : List (Nat × ByteArray)} (y : ByteArray) (s : Int) (d : ByteArray) (hE : ∀ D, E = some D → ∃ m, D.size = 64 * m ∧ m ≤ 16384) (hn : ¬ (plOk nm E y s ∧ d.size = 64)) (w : World) (h : DevAt w B b S nm E ws) :
    Calls Tryz.prog 39 #[.pointer (some ⟨b, 0, none⟩), .string y, .int .i64 s, .string d] w fun e w' => ∃ c : Int, (c = 1 ∨ c = 2 ∨ c = 3) ∧ e = .returned (.int .i64 c) ∧ Hid (w.grownBy w' none) := by
  by_cases hp : plOk nm E y s
  · obtain ⟨D, rfl, hy, hs0, hs1⟩ := hp
    obtain rfl := isA_eq hy
    obtain ⟨m, hm, hm2⟩ := hE D rfl
    obtain ⟨s', rfl⟩ : ∃ s' : Nat, s = (s' : Int) := ⟨s.toNat, by omega⟩
    have HP := Lib.hid (place_ok s' hm (by omega) hm2 w h)
    have hd : d.size ≠ 64 := fun e => hn ⟨⟨D, rfl, hy, hs0, hs1⟩, e⟩
    have hdn : (((d.size : Nat) : Int) != 64) = true := by simp; omega
    clear h hn hE hm hd hy
    go_enter Tryz.func39, Tryz.ntmps39
    go_wp2_with fail
    refine HP.out.mono ?_
    rintro e w1 ⟨rfl, hg1⟩
    simp only []
    go_wp2_with fail
    go_ret
    exact ⟨2, .inr (.inl rfl), rfl, hg1⟩
  · have HP := Lib.hid (place_bad y s hE hp w h)
    clear h hn hE hp
    go_enter Tryz.func39, Tryz.ntmps39
    go_wp2_with fail
    refine HP.out.mono ?_
    rintro e w1 ⟨c, hc, rfl, hg1⟩
    simp only []
    rcases hc with rfl | rfl
    · go_wp2_with fail
      go_ret
      exact ⟨1, .inl rfl, rfl, hg1⟩
    · go_wp2_with fail
      go_ret
      exact ⟨3, .inr (.inr rfl), rfl, hg1⟩
end Go.Proofs.YtihohljhjdmamaaGreat
