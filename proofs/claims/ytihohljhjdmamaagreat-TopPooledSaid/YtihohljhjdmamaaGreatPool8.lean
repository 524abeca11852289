/- pool: plain, Over and Make. -/
import Derived.Test.YtihohljhjdmamaaGreatPool7
import Derived.StillTailTactics
namespace Go.Proofs.YtihohljhjdmamaaGreat
open Go.RowKit
set_option linter.unusedVariables false

theorem pool_size : (Tryz.prog.info? 36).map (·.size) = some 9 := by kernel_rfl
theorem own_cap {w : World} {B : Nat} {e : TypeId} {size : Nat} {a : Option Addr} {n c m : Nat} {xs : List Value} (h : w.ownsRow B e size (.slice a n c) m xs) : m ≤ c := by
  rcases h.2 with ⟨h1, h2⟩ | ⟨g, cap, cur, h1, _, _, h2, _⟩
  · omega
  · injection h1 with _ _ h3
    omega

theorem row_put9 {w : World} {b : Nat} {x0 x1 x2 x3 x4 x5 x6 x7 x8 : Value} {t : TypeId} (y0 y1 y2 y3 y4 y5 y6 y7 y8 : Value) (hb : w.heap[b]? = some (.cells #[x0, x1, x2, x3, x4, x5, x6, x7, x8] t (0, 0))) :
    (((((((((w.setCell ⟨b, 0, none⟩ y0).setCell ⟨b, 1, none⟩ y1).setCell ⟨b, 2, none⟩ y2).setCell ⟨b, 3, none⟩ y3).setCell ⟨b, 4, none⟩ y4).setCell ⟨b, 5, none⟩ y5).setCell ⟨b, 6, none⟩ y6).setCell ⟨b, 7, none⟩ y7).setCell ⟨b, 8, none⟩ y8).heap[b]? = some (.cells #[y0, y1, y2, y3, y4, y5, y6, y7, y8] t (0, 0)) ∧ w.grownBy (((((((((w.setCell ⟨b, 0, none⟩ y0).setCell ⟨b, 1, none⟩ y1).setCell ⟨b, 2, none⟩ y2).setCell ⟨b, 3, none⟩ y3).setCell ⟨b, 4, none⟩ y4).setCell ⟨b, 5, none⟩ y5).setCell ⟨b, 6, none⟩ y6).setCell ⟨b, 7, none⟩ y7).setCell ⟨b, 8, none⟩ y8) (some b) := by
  refine ⟨?_, grown_trans (grown_trans (grown_trans (grown_trans (grown_trans (grown_trans (grown_trans (grown_trans (grown_setCell w ⟨b, 0, none⟩ y0) (grown_setCell _ ⟨b, 1, none⟩ y1)) (grown_setCell _ ⟨b, 2, none⟩ y2)) (grown_setCell _ ⟨b, 3, none⟩ y3)) (grown_setCell _ ⟨b, 4, none⟩ y4)) (grown_setCell _ ⟨b, 5, none⟩ y5)) (grown_setCell _ ⟨b, 6, none⟩ y6)) (grown_setCell _ ⟨b, 7, none⟩ y7)) (grown_setCell _ ⟨b, 8, none⟩ y8)⟩
  have h1 : (w.setCell ⟨b, 0, none⟩ y0).heap[b]? = some (.cells #[y0, x1, x2, x3, x4, x5, x6, x7, x8] t (0, 0)) := heap_setCell_same w b 0 _ t y0 hb
  generalize w.setCell ⟨b, 0, none⟩ y0 = w1 at h1 ⊢
  clear hb
  have h2 : (w1.setCell ⟨b, 1, none⟩ y1).heap[b]? = some (.cells #[y0, y1, x2, x3, x4, x5, x6, x7, x8] t (0, 0)) := heap_setCell_same w1 b 1 _ t y1 h1
  generalize w1.setCell ⟨b, 1, none⟩ y1 = w2 at h2 ⊢
  clear h1
  have h3 : (w2.setCell ⟨b, 2, none⟩ y2).heap[b]? = some (.cells #[y0, y1, y2, x3, x4, x5, x6, x7, x8] t (0, 0)) := heap_setCell_same w2 b 2 _ t y2 h2
  generalize w2.setCell ⟨b, 2, none⟩ y2 = w3 at h3 ⊢
  clear h2
  have h4 : (w3.setCell ⟨b, 3, none⟩ y3).heap[b]? = some (.cells #[y0, y1, y2, y3, x4, x5, x6, x7, x8] t (0, 0)) := heap_setCell_same w3 b 3 _ t y3 h3
  generalize w3.setCell ⟨b, 3, none⟩ y3 = w4 at h4 ⊢
  clear h3
  have h5 : (w4.setCell ⟨b, 4, none⟩ y4).heap[b]? = some (.cells #[y0, y1, y2, y3, y4, x5, x6, x7, x8] t (0, 0)) := heap_setCell_same w4 b 4 _ t y4 h4
  generalize w4.setCell ⟨b, 4, none⟩ y4 = w5 at h5 ⊢
  clear h4
  have h6 : (w5.setCell ⟨b, 5, none⟩ y5).heap[b]? = some (.cells #[y0, y1, y2, y3, y4, y5, x6, x7, x8] t (0, 0)) := heap_setCell_same w5 b 5 _ t y5 h5
  generalize w5.setCell ⟨b, 5, none⟩ y5 = w6 at h6 ⊢
  clear h5
  have h7 : (w6.setCell ⟨b, 6, none⟩ y6).heap[b]? = some (.cells #[y0, y1, y2, y3, y4, y5, y6, x7, x8] t (0, 0)) := heap_setCell_same w6 b 6 _ t y6 h6
  generalize w6.setCell ⟨b, 6, none⟩ y6 = w7 at h7 ⊢
  clear h6
  have h8 : (w7.setCell ⟨b, 7, none⟩ y7).heap[b]? = some (.cells #[y0, y1, y2, y3, y4, y5, y6, y7, x8] t (0, 0)) := heap_setCell_same w7 b 7 _ t y7 h7
  generalize w7.setCell ⟨b, 7, none⟩ y7 = w8 at h8 ⊢
  clear h7
  exact heap_setCell_same _ b 8 _ t y8 h8

set_option maxRecDepth 100000 in
set_option maxHeartbeats 8000000 in
theorem plain_any {B a b S T R : Nat} {nm D : ByteArray} {fs : List (Nat × Nat)} (w : World) (h : ArAt w B a b S nm D fs T R) :
    Calls Tryz.prog 22 #[.pointer (some ⟨a, 0, none⟩)] w fun e w' => ∃ v, e = .returned v ∧ Hid (PlAt w' S nm D fs T R v) ∧ Hid (w.grownBy w' none) := by
  have HS := Lib.hid pool_size
  obtain ⟨af, cf, pk, hra, hof⟩ := h.at_
  obtain ⟨ae, ce, aw, cw, hrd, hoe, how⟩ := h.dev.at_
  have hcf := own_cap hof
  have HOf := Lib.hid hof
  have HOe := Lib.hid (And.intro hoe how)
  have Hcf := Lib.hid hcf
  obtain ⟨n, hn⟩ : ∃ n, n = fs.length := ⟨_, rfl⟩
  have Hn := Lib.hid hn
  rw [← hn] at hra
  have g0 := World.grownBy_alloc w (.cells #[.int .i64 0, .slice none 0 0, .slice none 0 0, .int .i64 0, .bool false, .slice none 0 0, .int .u64 0, .int .u64 0, .int .u64 0] 36) none
  have q0 := heap_alloc_new w (.cells #[.int .i64 0, .slice none 0 0, .slice none 0 0, .int .i64 0, .bool false, .slice none 0 0, .int .u64 0, .int .u64 0, .int .u64 0] 36)
  clear hof hoe how hcf h hn
  go_enter Tryz.func22, Tryz.ntmps22
  go_wp2_with fail
  have RA := Lib.hid (row_kept hra g0 (by simp))
  have RD := Lib.hid (row_kept hrd g0 (by simp))
  have Q0 := Lib.hid q0
  have G0 := Lib.hid g0
  clear hra hrd q0 g0
  generalize w.alloc (.cells #[.int .i64 0, .slice none 0 0, .slice none 0 0, .int .i64 0, .bool false, .slice none 0 0, .int .u64 0, .int .u64 0, .int .u64 0] 36) = w1 at RA RD Q0 G0 ⊢
  obtain ⟨p, hp⟩ : ∃ p, p = w.heap.size := ⟨_, rfl⟩
  rw [← hp] at Q0 ⊢
  have Hp := Lib.hid hp
  clear hp
  have a0 := row_cell RA.out 0 _ rfl
  have a1 := row_cell RA.out 1 _ rfl
  have a2 := row_cell RA.out 2 _ rfl
  have a3 := row_cell RA.out 3 _ rfl
  have a4 := row_cell RA.out 4 _ rfl
  have d0 := row_cell RD.out 0 _ rfl
  have d1 := row_cell RD.out 1 _ rfl
  have d2 := row_cell RD.out 2 _ rfl
  have d3 := row_cell RD.out 3 _ rfl
  have d4 := row_cell RD.out 4 _ rfl
  go_still_tail 24, (by kernel_rfl)
  clear a0 a1 a2 a3 a4 d0 d1 d2 d3 d4
  have Q1 : Hid (w1.drew.heap[p]? = some (.cells #[.int .i64 0, .slice none 0 0, .slice none 0 0, .int .i64 0, .bool false, .slice none 0 0, .int .u64 0, .int .u64 0, .int .u64 0] 36 (0, 0))) := Q0.out
  have G1 : Hid (w.grownBy w1.drew none) := grown_trans G0.out (grown_drew _ _)
  change wpList _ _ _ _ _ w1.drew
  generalize w1.drew = w2 at Q1 G1 ⊢
  obtain ⟨⟨c0, c1, c2, c3, c4, c5, c6, c7, c8⟩, hfz⟩ := row9 Q1.out
  go_wp2_with fail
  have hput := row_put9 (.int .i64 (S : Nat)) (.slice ae 1 ce) (.slice aw 0 cw) (.int .i64 (-1)) (.bool false) (.slice af n cf) (.int .u64 (T : Nat)) (.int .u64 (R : Nat)) (.int .u64 0) Q1.out
  have hrow := hput.1
  have hg := grown_own G1.out hput.2 (Nat.le_of_eq Hp.out.symm)
  clear hput c0 c1 c2 c3 c4 c5 c6 c7 c8 hfz
  refine bodyPost_ret (results_cell_row (fn := Tryz.f22) (p := 2) (ty := 36) rfl _ _ p 36 _ _ _ rfl hrow Tryz.underlying36 rfl HS.out) rfl ?_
  refine ⟨_, rfl, ⟨ae, ce, aw, cw, af, cf, Hcf.out, by rw [← Hn.out], own_keep HOe.out.1 hg (Nat.zero_le _), own_keep HOe.out.2 hg (Nat.zero_le _), RowAt.of_owns (own_keep HOf.out hg (Nat.le_refl _))⟩, hg⟩
end Go.Proofs.YtihohljhjdmamaaGreat
