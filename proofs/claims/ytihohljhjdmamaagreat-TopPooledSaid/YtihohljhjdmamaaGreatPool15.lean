/- pool: Pin of an arena. -/
import Derived.Test.YtihohljhjdmamaaGreatPool14
import Derived.Deep.CutRange
import Derived.Deep.RegionHeld3
import Derived.StillTailTactics
namespace Go.Proofs.YtihohljhjdmamaaGreat
open Go.RowKit
set_option linter.unusedVariables false

set_option maxRecDepth 100000 in
set_option maxHeartbeats 4000000 in
theorem pin1_no {nm D : ByteArray} (f : Nat × Nat) (s b c : Nat) (hk : FrOk f) (hn : isNm nm = true) (hs : f.1 ≠ s) (w : World) (hb : w.cell? ⟨b, 0, none⟩ = some (.int .i64 (s : Nat))) :
    Calls Tryz.prog 51 #[frV nm D f, .pointer (some ⟨b, 0, none⟩), .pointer (some ⟨c, 0, none⟩)] w fun e w' => e = .returned (.bool false) ∧ Hid (w.grownBy w' none) := by
  have HH := Lib.hid (fun W => holds_any (D := D) f hk hn W)
  have q0 := heap_alloc_new w (.cells (frC nm D f).toArray 106)
  have g0 := World.grownBy_alloc w (.cells (frC nm D f).toArray 106) none
  have HF := Lib.hid (fun W (hW : World.grownBy _ W none) => And.intro (FrRow.cells (show FrRow W nm D w.heap.size f from row_kept q0 hW (by simp))) ((grown_trans g0 hW).cell hb (by simp)))
  obtain ⟨⟨b0, b1, b2, b3, b4, b5, b6⟩, _⟩ := HF.out _ (grown_self _ _)
  have G0 := Lib.hid g0
  have hsi : ((f.1 : Int) == (s : Int)) = false := by simp; omega
  clear q0 g0 hb hn hs
  unfold frV heldF at HH ⊢
  unfold frC at *
  go_enter Tryz.func51, Tryz.ntmps51
  go_wp2_with fail
  (with_reducible refine (HH.out _).mono ?_)
  rintro e w2 ⟨rfl, hg2⟩
  clear b0 b1 b2 b3 b4 b5 b6
  obtain ⟨⟨b0, b1, b2, b3, b4, b5, b6⟩, cs⟩ := HF.out w2 hg2.out
  by_cases hz : f.1 = 0
  · have hzb : (!(f.1 == 0)) = false := by simpa using hz
    rw [hzb]
    clear hzb
    simp only []
    go_wp2_with fail
    go_ret
    exact ⟨rfl, grown_trans G0.out hg2.out⟩
  · have hzb : (!(f.1 == 0)) = true := by simpa using hz
    rw [hzb]
    clear hzb
    simp only []
    go_wp2_with fail
    go_ret
    exact ⟨rfl, grown_trans G0.out hg2.out⟩
theorem set_again (L : List Value) (i : Nat) (x0 x1 x2 x3 x4 x5 x6 y3 y5 : Value) : ((((((((L.set i x0).set (i + 1) x1).set (i + 2) x2).set (i + 3) x3).set (i + 4) x4).set (i + 5) x5).set (i + 6) x6).set (i + 5) y5).set (i + 3) y3 = ((((((L.set i x0).set (i + 1) x1).set (i + 2) x2).set (i + 3) y3).set (i + 4) x4).set (i + 5) y5).set (i + 6) x6 := by
  apply List.ext_getElem?
  intro j
  simp only [List.getElem?_set, List.length_set]
  by_cases h3 : i + 3 = j
  · subst h3; simp
  · by_cases h5 : i + 5 = j
    · subst h5; simp
    · simp [h3, h5]

set_option maxRecDepth 100000 in
set_option maxHeartbeats 8000000 in
theorem apin_any {B a b S T R m s : Nat} {nm D : ByteArray} {fs : List (Nat × Nat)} (hn : isNm nm = true) (hok : ∀ f ∈ fs, FrOk f ∧ f.2 = 0 ∧ f.1 ≠ s) (h1 : 1 ≤ fs.length) (hl : fs.length ≤ 256) (hsT : s = T + 1) (hD : D.size = 64 * m) (hsm : s < m) (hm : m ≤ 16384) (hR : R ≤ 1000000) (w : World) (hB : B ≤ w.heap.size) (h : ArAt w B a b S nm D fs T R) :
    Calls Tryz.prog 24 #[.pointer (some ⟨a, 0, none⟩), .string nm, .int .i64 (s : Nat)] w fun e w' => ∃ k : Nat, k < fs.length ∧ e = .returned (.tuple #[.int .i64 (k : Nat), .int .i64 0]) ∧ Hid (ArAt w' B a b S nm D (fs.set k (s, 1)) (T + 1) (R + 1)) ∧ Hid (Below B w w') := by
  obtain ⟨g, cf, pk, hx⟩ := h.x h1 hB
  have HX : Hid (∀ (W : World) (bs bn : Nat), w.grownBy W none → W.cell? ⟨bs, 0, none⟩ = some (.int .i64 (s : Nat)) → Calls Tryz.prog 50 #[.slice (some ⟨g, 0, none⟩) fs.length cf, .func (.func 51) #[] #[.pointer (some ⟨bs, 0, none⟩), .pointer (some ⟨bn, 0, none⟩)]] W fun e w' => e = .returned (.int .i64 (-1)) ∧ Hid (W.grownBy w' none)) := fun W bs bn hW hs => by
    have hf : FrsAt W nm D (.slice (some ⟨g, 0, none⟩) fs.length cf) fs := RowAt.of_owns (hx.grow hW).own
    exact index_pin _ bs bn W hf hl (fun V f hV hf => pin1_no f s bs bn (hok f hf).1 hn (hok f hf).2.2 V (hV.cell hs (by simp)))
  have HR : Hid (∀ W, w.grownBy W none → Calls Tryz.prog 53 #[.pointer (some ⟨b, 0, none⟩), .string nm, .int .i64 (s : Nat)] W fun e w' => e = .returned (.tuple #[.string (sec D s), .int .i64 0]) ∧ Hid (W.grownBy w' none)) := fun W hW => devread_ok s hD hsm hm W (hx.dev.grown hW)
  have HT : Hid (∀ W, w.grownBy W none → Calls Tryz.prog 54 #[.pointer (some ⟨a, 0, none⟩)] W fun e w' => ∃ k : Nat, k < fs.length ∧ e = .returned (.tuple #[.int .i64 (k : Nat), .int .i64 0]) ∧ Hid (∃ g cf pk, ArX w' B a b S g fs.length cf nm D (frsC nm D (fs.set k (0, 0))) (T : Nat) (R : Nat) pk) ∧ Hid (Below B W w') ∧ Hid (Kept2 W w')) := fun W hW => by
    refine (take_frame hn (fun f hf => ⟨(hok f hf).1, (hok f hf).2.1⟩) h1 hl W (Nat.le_trans hB hW.size) (h.grown hW)).mono ?_
    rintro e w' ⟨k, hk, rfl, hA, hb, hk2⟩
    refine ⟨k, hk, rfl, ?_, hb, hk2⟩
    obtain ⟨g', cf', pk', hx'⟩ := hA.out.x (by rw [List.length_set]; exact h1) (Nat.le_trans hB (Nat.le_trans hW.size hb.out.size))
    rw [List.length_set] at hx'
    exact ⟨g', cf', pk', hx'⟩
  have HC := Lib.hid (fun W (hW : w.grownBy W none) => (hx.grow hW).cells)
  have Hset : Hid (∀ k, k < fs.length → frsC nm D ((fs.set k (0, 0)).set k (s, 1)) = frsC nm D (fs.set k (s, 1))) := fun k hk => by rw [List.set_set]
  have Hput : Hid (∀ k, k < fs.length → ∀ y5, y5 = Value.int .u64 (s : Nat) → ((((((((frsC nm D (fs.set k (0, 0))).set (k * 7) (.string nm)).set (k * 7 + 1) (.int .i64 (s : Nat))).set (k * 7 + 2) (.string (sec D s))).set (k * 7 + 3) (.int .i64 1)).set (k * 7 + 4) (.bool false)).set (k * 7 + 5) y5).set (k * 7 + 6) (.bool false)) = frsC nm D (fs.set k (s, 1))) := fun k hk y5 hy => by
    have hs0 : ¬ (s, 1).1 = 0 := by show ¬ s = 0; omega
    have h9 := frsC_put nm D (fs.set k (0, 0)) k (s, 1) (by rw [List.length_set]; exact hk) (.string nm) (.int .i64 (s : Nat)) (.string (sec D s)) (.int .i64 1) (.bool false) (.int .u64 (s : Nat)) (.bool false) (by unfold frC nmO datO; rw [if_neg hs0, if_neg hs0]; rfl)
    rw [List.set_set] at h9
    rw [hy]
    exact h9
  have HsT := Lib.hid hsT
  have HBs := Lib.hid hB
  obtain ⟨n, hnn⟩ : ∃ n, n = fs.length := ⟨_, rfl⟩
  rw [← hnn] at HX HT HC Hset Hput hl h1 ⊢
  have Hnn := Lib.hid hnn
  have hni : (n : Int) ≤ 256 := by omega
  have hs1 : s ≤ 16384 := by omega
  have hT1 : T ≤ 16384 := by omega
  clear hnn hx h hok hsT hD hsm
  obtain ⟨q0, q1, hsz⟩ := two_blocks w (.cells #[.string nm] 9) (.cells #[.int .i64 (s : Nat)] 3)
  have g0 := Lib.hid (grown_trans (World.grownBy_alloc w (.cells #[.string nm] 9) none) (World.grownBy_alloc _ (.cells #[.int .i64 (s : Nat)] 3) none))
  have HF := Lib.hid (fun W (hW : World.grownBy _ W none) => And.intro (row_cell (row_kept (w' := W) q0 hW (by simp)) 0 _ rfl) (row_cell (row_kept (w' := W) q1 hW (by simp)) 0 _ rfl))
  have HQ := Lib.hid (fun W (hW : World.grownBy _ W none) => And.intro (row_kept (w' := W) q0 hW (by simp)) (row_kept (w' := W) q1 hW (by simp)))
  obtain ⟨c0, c1, c2, c3, c4, c5⟩ := HC.out _ g0.out
  clear q0 q1 hsz
  go_enter Tryz.func24, Tryz.ntmps24
  go_wp2_with fail
  clear c0 c1 c2 c3 c4 c5
  generalize (w.alloc (.cells #[.string nm] 9)).alloc (.cells #[.int .i64 (s : Nat)] 3) = w0 at g0 HF HQ ⊢
  generalize w.heap.size = hp at HF HQ ⊢
  obtain ⟨d0, d1⟩ := HF.out w0 (grown_self _ _)
  (with_reducible refine (HX.out _ _ _ g0.out d1).mono ?_)
  rintro e w1 ⟨rfl, hg1⟩
  clear d0 d1
  simp only []
  go_wp2_with fail
  have hgw1 : Hid (w.grownBy w1 none) := grown_trans g0.out hg1.out
  have HK : Hid (∀ W, w1.grownBy W none → W.cell? ⟨a, 0, none⟩ = some (.pointer (some ⟨b, 0, none⟩)) ∧ W.cell? ⟨hp, 0, none⟩ = some (.string nm) ∧ W.cell? ⟨hp + 1, 0, none⟩ = some (.int .i64 (s : Nat))) := fun W hW => ⟨(HC.out W (grown_trans hgw1.out hW)).1, (HF.out W (grown_trans hg1.out hW)).1, (HF.out W (grown_trans hg1.out hW)).2⟩
  go_region_held3 (fun w' => w'.cell? ⟨a, 0, none⟩ = some (.pointer (some ⟨b, 0, none⟩)) ∧ w'.cell? ⟨hp, 0, none⟩ = some (.string nm) ∧ w'.cell? ⟨hp + 1, 0, none⟩ = some (.int .i64 (s : Nat))) (first
    | exact HK.out _ (by assumption)
    | exact HK.out _ (grown_drew _ _)
    | exact HK.out _ (grown_self _ _)) (first
    | (go_at_call 53; refine (HR.out _ (by first | exact grown_trans hgw1.out (grown_drew _ _) | exact hgw1.out)).mono ?_; rintro e w2 ⟨rfl, hg2⟩; have gg2 : w1.grownBy w2 none := (by first | exact grown_trans (grown_drew _ _) hg2.out | exact hg2.out)))
  have hgw2 : Hid (w.grownBy w2 none) := grown_trans hgw1.out gg2
  have Gg2 := Lib.hid gg2
  clear gg2
  go_wp2_with fail
  (with_reducible refine (HT.out _ hgw2.out).mono ?_)
  rintro e w3 ⟨k, hk, rfl, hA, hb, hk2⟩
  have Hb3 : Hid (Below B w w3) := (bel_grown hgw2.out HBs.out).trans hb.out
  have e0 : w3.cell? ⟨hp, 0, none⟩ = some (.string nm) := row_cell (hk2.out _ _ _ _ (HQ.out w2 (grown_trans hg1.out Gg2.out)).1 (by decide) (by decide)) 0 _ rfl
  have e1 : w3.cell? ⟨hp + 1, 0, none⟩ = some (.int .i64 (s : Nat)) := row_cell (hk2.out _ _ _ _ (HQ.out w2 (grown_trans hg1.out Gg2.out)).2 (by decide) (by decide)) 0 _ rfl
  obtain ⟨g3, cf3, pk3, hx3⟩ := hA.out
  obtain ⟨c0, c1, c2, c3, c4, c5⟩ := hx3.cells
  have HX3 := Lib.hid hx3
  have hki : (k : Int) < (n : Int) := by omega
  have hk256 : k < 256 := by omega
  clear hx3 hb hk2 hA HC HK HF HX HR HT
  simp only []
  go_wp2_with fail
  go_still_tail 10, (by kernel_rfl)
  clear c0 c1 c2 c3 c4 c5 e0 e1
  have hx4 := HX3.out.grow (grown_drew w3 none)
  change wpList _ _ _ _ _ w3.drew
  have Hb4 : Hid (Below B w w3.drew) := Hb3.out.trans (below_drewN (Below.refl _ _) 1)
  generalize w3.drew = w4 at hx4 Hb4 ⊢
  have HX4 := Lib.hid hx4
  clear hx4
  have hk7 : k * 7 + 7 ≤ (frsC nm D (fs.set k (0, 0))).length := by rw [frsC_length, List.length_set, ← Hnn.out]; omega
  have Hcell : Hid (∀ j, j < 7 → ∃ u, w4.cell? ⟨g3, k * 7 + j, none⟩ = some u) := fun j hj => ⟨_, HX4.out.fcell (k * 7 + j) _ (List.getElem?_eq_getElem (by omega))⟩
  obtain ⟨u0, d0⟩ := Hcell.out 0 (by omega)
  obtain ⟨u1, d1⟩ := Hcell.out 1 (by omega)
  obtain ⟨u2, d2⟩ := Hcell.out 2 (by omega)
  obtain ⟨u3, d3⟩ := Hcell.out 3 (by omega)
  obtain ⟨u4, d4⟩ := Hcell.out 4 (by omega)
  obtain ⟨u5, d5⟩ := Hcell.out 5 (by omega)
  obtain ⟨u6, d6⟩ := Hcell.out 6 (by omega)
  rw [Nat.add_zero] at d0
  have hff := HX4.out.ffree
  go_upto_region 10 with (fail)
  clear d0 d1 d2 d3 d4 d5 d6 hff
  obtain ⟨hx5, hb5⟩ := HX4.out.put7 k (.string nm) (.int .i64 (s : Nat)) (.string (sec D s)) (.int .i64 0) (.bool false) (.int .u64 0) (.bool false)
  have Hb5 := Lib.hid (Hb4.out.trans hb5)
  clear hb5
  generalize (((((((w4.setCell ⟨g3, k * 7, none⟩ (.string nm)).setCell ⟨g3, k * 7 + 1, none⟩ (.int .i64 (s : Nat))).setCell ⟨g3, k * 7 + 2, none⟩ (.string (sec D s))).setCell ⟨g3, k * 7 + 3, none⟩ (.int .i64 0)).setCell ⟨g3, k * 7 + 4, none⟩ (.bool false)).setCell ⟨g3, k * 7 + 5, none⟩ (.int .u64 0)).setCell ⟨g3, k * 7 + 6, none⟩ (.bool false)) = w5 at hx5 Hb5 ⊢
  have HX5 := Lib.hid hx5
  clear hx5
  obtain ⟨c0, c1, c2, c3, c4, c5⟩ := HX5.out.cells
  have haf := HX5.out.afree 3
  have hwR : IntKind.u64.wrap ((R : Int) + 1) = (R : Int) + 1 := IntWalk.u64_in _ (by omega)
  go_upto_region 11 with (fail)
  clear c0 c1 c2 c3 c4 c5 haf hwR
  obtain ⟨hx6, hb6⟩ := HX5.out.putA (T' := (T : Nat)) (R' := (R : Int) + 1) (pk' := pk3) 3 (.int .u64 ((R : Int) + 1)) rfl
  have Hb6 := Lib.hid (Hb5.out.trans hb6)
  clear hb6
  generalize w5.setCell ⟨a, 3, none⟩ (.int .u64 ((R : Int) + 1)) = w6 at hx6 Hb6 ⊢
  have HX6 := Lib.hid hx6
  clear hx6
  obtain ⟨c0, c1, c2, c3, c4, c5⟩ := HX6.out.cells
  have hg33 := HX6.out.fcell (k * 7 + 3) (.int .i64 0) (by simp only [List.getElem?_set, List.length_set]; simp; omega)
  have haf := HX6.out.afree 2
  have hwT : IntKind.u64.wrap ((T : Int) + 1) = (T : Int) + 1 := IntWalk.u64_in _ (by omega)
  go_upto_region 15 with (fail)
  clear c0 c1 c2 c3 c4 c5 haf hwT hg33
  obtain ⟨hx7, hb7⟩ := HX6.out.putA (T' := (T : Int) + 1) (R' := (R : Int) + 1) (pk' := pk3) 2 (.int .u64 ((T : Int) + 1)) rfl
  have Hb7 := Lib.hid (Hb6.out.trans hb7)
  clear hb7
  generalize w6.setCell ⟨a, 2, none⟩ (.int .u64 ((T : Int) + 1)) = w7 at hx7 Hb7 ⊢
  have HX7 := Lib.hid hx7
  clear hx7
  obtain ⟨c0, c1, c2, c3, c4, c5⟩ := HX7.out.cells
  have hff := HX7.out.ffree (k * 7 + 5)
  have hg35 := HX7.out.fcell (k * 7 + 5) (.int .u64 0) (by simp only [List.getElem?_set, List.length_set]; simp; omega)
  go_upto_region 16 with (fail)
  clear hg35 c0 c1 c2 c3 c4 c5 hff
  obtain ⟨hx8, hb8⟩ := HX7.out.put (k * 7 + 5) (.int .u64 ((T : Int) + 1))
  have Hb8 := Lib.hid (Hb7.out.trans hb8)
  clear hb8
  generalize w7.setCell ⟨g3, k * 7 + 5, none⟩ (.int .u64 ((T : Int) + 1)) = w8 at hx8 Hb8 ⊢
  have HX8 := Lib.hid hx8
  clear hx8
  have hg33 := HX8.out.fcell (k * 7 + 3) (.int .i64 0) (by simp only [List.getElem?_set, List.length_set]; simp; omega)
  have hff := HX8.out.ffree (k * 7 + 3)
  obtain ⟨hx9, hb9⟩ := HX8.out.put (k * 7 + 3) (.int .i64 1)
  have Hb9 := Lib.hid (Hb8.out.trans hb9)
  have HX9 := Lib.hid hx9
  clear hx9 hb9
  go_wp2_with fail
  go_ret2
  refine ⟨k, by omega, rfl, ?_, Hb9.out⟩
  have hx9 := HX9.out
  rw [set_again, Hput.out k (by omega) _ (by rw [HsT.out]; rfl)] at hx9
  exact hx9.at_ (by rw [List.length_set]; exact Hnn.out) rfl
end Go.Proofs.YtihohljhjdmamaaGreat
