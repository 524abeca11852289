/- pool: Open. -/
import Derived.Test.YtihohljhjdmamaaGreatPool6
import Derived.Deep.RegionHeld3
namespace Go.Proofs.YtihohljhjdmamaaGreat
open Go.RowKit
set_option linter.unusedVariables false

/-- a pool at work -/
structure ArAt (w : World) (B a b S : Nat) (nm D : ByteArray) (fs : List (Nat × Nat)) (T R : Nat) : Prop where
  low : B ≤ a
  dev : DevAt w B b S nm (some D) []
  at_ : ∃ af cf pk, w.heap[a]? = some (.cells #[.pointer (some ⟨b, 0, none⟩), .slice af fs.length cf, .int .u64 (T : Nat), .int .u64 (R : Nat), .int .u64 0, .int .i64 pk] 100 (0, 0)) ∧
    w.ownsRow B 106 7 (.slice af fs.length cf) fs.length (frsC nm D fs)

theorem popen_fin1 {w w1 w3 w4 : World} {S T R n b1 : Nat} {nm D : ByteArray} {fs : List (Nat × Nat)} {ae' aw' af' : Option Addr} {ce' cw' cf' : Nat} (hn : fs.length = n) (hs : Hid (w.heap.size ≤ w1.heap.size)) (g3 : w1.grownBy w3 none)
    (hoe : w3.ownsRow b1 62 2 (.slice ae' 1 ce') 1 (exC nm (some D)) ∧ w3.ownsRow b1 98 3 (.slice aw' 0 cw') 0 []) (hb1 : w1.heap.size ≤ b1)
    (hof : w4.ownsRow (w3.alloc (.cells #[.int .i64 (S : Nat), .slice ae' 1 ce', .slice aw' 0 cw', .int .i64 (-1), .bool false] 59)).heap.size 106 7 (.slice af' n cf') n (frsC nm D fs))
    (hg4 : (w3.alloc (.cells #[.int .i64 (S : Nat), .slice ae' 1 ce', .slice aw' 0 cw', .int .i64 (-1), .bool false] 59)).grownBy w4 none) :
    Hid (w1.grownBy (w4.alloc (.cells #[.pointer (some ⟨w3.heap.size, 0, none⟩), .slice af' n cf', .int .u64 (T : Nat), .int .u64 (R : Nat), .int .u64 0, .int .i64 0] 100)) none ∧ ArAt (w4.alloc (.cells #[.pointer (some ⟨w3.heap.size, 0, none⟩), .slice af' n cf', .int .u64 (T : Nat), .int .u64 (R : Nat), .int .u64 0, .int .i64 0] 100)) w.heap.size w4.heap.size w3.heap.size S nm D fs T R) := by
  have h0 := hs.out
  have q3 := heap_alloc_new w3 (.cells #[.int .i64 (S : Nat), .slice ae' 1 ce', .slice aw' 0 cw', .int .i64 (-1), .bool false] 59)
  have g3a := World.grownBy_alloc w3 (.cells #[.int .i64 (S : Nat), .slice ae' 1 ce', .slice aw' 0 cw', .int .i64 (-1), .bool false] 59) none
  generalize w3.alloc (.cells #[.int .i64 (S : Nat), .slice ae' 1 ce', .slice aw' 0 cw', .int .i64 (-1), .bool false] 59) = w3a at *
  have q4 := heap_alloc_new w4 (.cells #[.pointer (some ⟨w3.heap.size, 0, none⟩), .slice af' n cf', .int .u64 (T : Nat), .int .u64 (R : Nat), .int .u64 0, .int .i64 0] 100)
  have g4a := World.grownBy_alloc w4 (.cells #[.pointer (some ⟨w3.heap.size, 0, none⟩), .slice af' n cf', .int .u64 (T : Nat), .int .u64 (R : Nat), .int .u64 0, .int .i64 0] 100) none
  have s3 := g3.size
  have s3a := g3a.size
  have s4 := hg4.size
  have gAll := grown_trans g3a (grown_trans hg4 g4a)
  refine ⟨grown_trans g3 gAll, by omega, ⟨by omega, ae', ce', aw', cw', row_kept q3 (grown_trans hg4 g4a) (by simp), own_keep hoe.1 gAll (by omega), own_keep hoe.2 gAll (by omega)⟩, af', cf', 0, ?_, ?_⟩
  · rw [hn]; exact q4
  · rw [hn]; exact own_keep hof g4a (by omega)
theorem popen_fin2 {w w1 w3 w4 : World} {S T R n b1 : Nat} {nm D : ByteArray} {fs : List (Nat × Nat)} {ae' aw' af' : Option Addr} {ce' cw' cf' : Nat} (hn : fs.length = n) (hs : Hid (w.heap.size ≤ w1.heap.size)) (g3 : w1.grownBy w3 none)
    (hoe : w3.ownsRow b1 62 2 (.slice ae' 1 ce') 1 (exC nm (some D)) ∧ w3.ownsRow b1 98 3 (.slice aw' 0 cw') 0 []) (hb1 : w1.heap.size ≤ b1)
    (hof : w4.ownsRow w3.heap.size 106 7 (.slice af' n cf') n (frsC nm D fs)) (hg4 : w3.grownBy w4 none) :
    Hid (w1.grownBy ((w4.alloc (.cells #[.int .i64 (S : Nat), .slice ae' 1 ce', .slice aw' 0 cw', .int .i64 (-1), .bool false] 59)).alloc (.cells #[.pointer (some ⟨w4.heap.size, 0, none⟩), .slice af' n cf', .int .u64 (T : Nat), .int .u64 (R : Nat), .int .u64 0, .int .i64 0] 100)) none ∧ ArAt ((w4.alloc (.cells #[.int .i64 (S : Nat), .slice ae' 1 ce', .slice aw' 0 cw', .int .i64 (-1), .bool false] 59)).alloc (.cells #[.pointer (some ⟨w4.heap.size, 0, none⟩), .slice af' n cf', .int .u64 (T : Nat), .int .u64 (R : Nat), .int .u64 0, .int .i64 0] 100)) w.heap.size (w4.heap.size + 1) w4.heap.size S nm D fs T R) := by
  have h0 := hs.out
  obtain ⟨q3, q4, _⟩ := two_blocks w4 (.cells #[.int .i64 (S : Nat), .slice ae' 1 ce', .slice aw' 0 cw', .int .i64 (-1), .bool false] 59) (.cells #[.pointer (some ⟨w4.heap.size, 0, none⟩), .slice af' n cf', .int .u64 (T : Nat), .int .u64 (R : Nat), .int .u64 0, .int .i64 0] 100)
  have g4a : w4.grownBy ((w4.alloc (.cells #[.int .i64 (S : Nat), .slice ae' 1 ce', .slice aw' 0 cw', .int .i64 (-1), .bool false] 59)).alloc (.cells #[.pointer (some ⟨w4.heap.size, 0, none⟩), .slice af' n cf', .int .u64 (T : Nat), .int .u64 (R : Nat), .int .u64 0, .int .i64 0] 100)) none := grown_trans (World.grownBy_alloc _ _ _) (World.grownBy_alloc _ _ _)
  have s3 := g3.size
  have s4 := hg4.size
  have gAll := grown_trans hg4 g4a
  refine ⟨grown_trans g3 gAll, by omega, ⟨by omega, ae', ce', aw', cw', q3, own_keep hoe.1 gAll (by omega), own_keep hoe.2 gAll (by omega)⟩, af', cf', 0, ?_, ?_⟩
  · rw [hn]; exact q4
  · rw [hn]; exact own_keep hof g4a (by omega)

set_option maxRecDepth 100000 in
set_option maxHeartbeats 8000000 in
theorem popen_any {S m T R : Nat} {nm D : ByteArray} {fs : List (Nat × Nat)} (hG : Good S nm (some D) []) (hD : D.size = 64 * m) (hm : m ≤ 16384) (hF : FsOk m T fs) (hT2 : T ≤ 1000000) (v : Value) (w : World) (hv : PlAt w S nm D fs T R v) :
    Calls Tryz.prog 23 #[v] w fun e w' => ∃ a b, e = .returned (.tuple #[.pointer (some ⟨a, 0, none⟩), .int .i64 0]) ∧ Hid (ArAt w' w.heap.size a b S nm D fs T R) ∧ Hid (w.grownBy w' none) := by
  have HCk : Hid (∀ W, w.grownBy W none → Calls Tryz.prog 48 #[v] W fun e w' => e = .returned (.int .i64 0) ∧ Hid (W.grownBy w' none)) := fun W hW => pcheck_any hG hD hm hF hT2 v W (hv.grown hW)
  obtain ⟨ae, ce, aw, cw, af, cf, hcf, rfl, he, hw, hf⟩ := hv.form
  have HO : Hid (∀ W, w.grownBy W none → Calls Tryz.prog 21 #[.agg #[.int .i64 (S : Nat), .slice ae 1 ce, .slice aw 0 cw, .int .i64 (-1), .bool false]] W fun e w' => ∃ ae' ce' aw' cw', e = .returned (.agg #[.int .i64 (S : Nat), .slice ae' 1 ce', .slice aw' 0 cw', .int .i64 (-1), .bool false]) ∧ Hid (w'.ownsRow W.heap.size 62 2 (.slice ae' 1 ce') 1 (exC nm (some D)) ∧ w'.ownsRow W.heap.size 98 3 (.slice aw' 0 cw') 0 []) ∧ Hid (W.grownBy w' none)) := fun W hW => by
    refine (own_any (S : Nat) (-1) false (.slice ae 1 ce) (.slice aw 0 cw) 1 0 (exC nm (some D)) [] W (RowAt.of_owns (own_keep he hW (Nat.le_refl _))) (RowAt.of_owns (own_keep hw hW (Nat.le_refl _))) rfl rfl (exC_one nm (some D)) (by simp) (by omega) (by omega)).mono ?_
    rintro e w' ⟨ev', wv', rfl, h1, h2, h3⟩
    obtain ⟨a1, c1, rfl, _⟩ := RowAt.of_owns h1
    obtain ⟨a2, c2, rfl, _⟩ := RowAt.of_owns h2
    exact ⟨a1, c1, a2, c2, rfl, ⟨h1, h2⟩, h3⟩
  have HCl : Hid (∀ W, w.grownBy W none → Calls Tryz.prog 49 #[.slice af fs.length cf] W fun e w' => ∃ af' cf', e = .returned (.slice af' fs.length cf') ∧ Hid (w'.ownsRow W.heap.size 106 7 (.slice af' fs.length cf') fs.length (frsC nm D fs)) ∧ Hid (W.grownBy w' none)) := fun W hW => by
    refine (clone_frm (.slice af fs.length cf) fs.length (frsC nm D fs) W (hf.grown hW) (frsC_length nm D fs) (frsC_one nm D fs) (by have := hF.few; omega)).mono ?_
    rintro e w' ⟨a1, c1, rfl, h1, h2⟩
    exact ⟨a1, c1, rfl, h1, h2⟩
  clear he hw hf hv hG hD hF
  generalize hn : fs.length = n at HCl HCk ⊢
  have Hn := Lib.hid hn
  clear hn
  have q0 := heap_alloc_new w (.cells #[.int .i64 (S : Nat), .slice ae 1 ce, .slice aw 0 cw, .int .i64 (-1), .bool false, .slice af n cf, .int .u64 (T : Nat), .int .u64 (R : Nat), .int .u64 0] 36)
  have g0 := World.grownBy_alloc w (.cells #[.int .i64 (S : Nat), .slice ae 1 ce, .slice aw 0 cw, .int .i64 (-1), .bool false, .slice af n cf, .int .u64 (T : Nat), .int .u64 (R : Nat), .int .u64 0] 36) none
  have HP := Lib.hid (fun W (hW : World.grownBy _ W none) => (row9 (row_kept (w' := W) q0 hW (by simp))).1)
  obtain ⟨c0, c1, c2, c3, c4, c5, c6, c7, c8⟩ := HP.out _ (grown_self _ _)
  have G0 := Lib.hid g0
  clear q0 g0
  go_enter Tryz.func23, Tryz.ntmps23
  go_wp2_with fail
  clear c0 c1 c2 c3 c4 c5 c6 c7 c8
  generalize w.alloc (.cells #[.int .i64 (S : Nat), .slice ae 1 ce, .slice aw 0 cw, .int .i64 (-1), .bool false, .slice af n cf, .int .u64 (T : Nat), .int .u64 (R : Nat), .int .u64 0] 36) = w0 at HP G0 ⊢
  obtain ⟨p, hp⟩ : ∃ p, p = w.heap.size := ⟨_, rfl⟩
  rw [← hp] at HP ⊢
  clear hp
  (with_reducible refine (HCk.out _ G0.out).mono ?_)
  rintro e w1 ⟨rfl, hg1⟩
  obtain ⟨c0, c1, c2, c3, c4, c5, c6, c7, c8⟩ := HP.out w1 hg1.out
  have HK : Hid (∀ W, w1.grownBy W none → W.cell? ⟨p, 0, none⟩ = some (.int .i64 (S : Nat)) ∧ W.cell? ⟨p, 1, none⟩ = some (.slice ae 1 ce) ∧ W.cell? ⟨p, 2, none⟩ = some (.slice aw 0 cw) ∧ W.cell? ⟨p, 3, none⟩ = some (.int .i64 (-1)) ∧ W.cell? ⟨p, 4, none⟩ = some (.bool false) ∧ W.cell? ⟨p, 5, none⟩ = some (.slice af n cf) ∧ W.cell? ⟨p, 6, none⟩ = some (.int .u64 (T : Nat)) ∧ W.cell? ⟨p, 7, none⟩ = some (.int .u64 (R : Nat)) ∧ W.cell? ⟨p, 8, none⟩ = some (.int .u64 0)) := fun W hW => HP.out W (grown_trans hg1.out hW)
  simp only []
  go_wp2_with fail
  clear c0 c1 c2 c3 c4 c5 c6 c7 c8
  have gd : w1.grownBy w1 none := grown_self _ _
  have hsw1 : Hid (w.heap.size ≤ w1.heap.size) := (grown_trans G0.out hg1.out).size
  go_region_held3 (fun w' => w'.cell? ⟨p, 0, none⟩ = some (.int .i64 (S : Nat)) ∧ w'.cell? ⟨p, 1, none⟩ = some (.slice ae 1 ce) ∧ w'.cell? ⟨p, 2, none⟩ = some (.slice aw 0 cw) ∧ w'.cell? ⟨p, 3, none⟩ = some (.int .i64 (-1)) ∧ w'.cell? ⟨p, 4, none⟩ = some (.bool false) ∧ w'.cell? ⟨p, 5, none⟩ = some (.slice af n cf) ∧ w'.cell? ⟨p, 6, none⟩ = some (.int .u64 (T : Nat)) ∧ w'.cell? ⟨p, 7, none⟩ = some (.int .u64 (R : Nat)) ∧ w'.cell? ⟨p, 8, none⟩ = some (.int .u64 0)) (first
    | exact HK.out _ (by assumption)
    | exact HK.out _ (grown_trans (by assumption) (World.grownBy_alloc _ _ _))
    | exact HK.out _ (grown_trans (by assumption) (grown_trans (World.grownBy_alloc _ _ _) (World.grownBy_alloc _ _ _)))
    | exact HK.out _ (grown_drew _ _)) (first
    | (go_at_call 21; refine (HO.out _ (grown_trans (grown_trans G0.out hg1.out) (by first | exact grown_drew _ _ | assumption | exact grown_trans (by assumption) (World.grownBy_alloc _ _ _)))).mono ?_; rintro e w3 ⟨ae', ce', aw', cw', rfl, hoe, hg3⟩; have gg3 : w1.grownBy w3 none := (by first | exact hg3.out | exact grown_trans (grown_drew w1 none) hg3.out | exact grown_trans (by assumption) hg3.out | exact grown_trans (grown_trans (by assumption) (World.grownBy_alloc _ _ _)) hg3.out))
    | (go_at_call 49; refine (HCl.out _ (grown_trans (grown_trans G0.out hg1.out) (by first | exact grown_drew _ _ | assumption | exact grown_trans (by assumption) (World.grownBy_alloc _ _ _)))).mono ?_; rintro e w4 ⟨af', cf', rfl, hof, hg4⟩; have gg4 : w1.grownBy w4 none := (by first | exact hg4.out | exact grown_trans (grown_drew w1 none) hg4.out | exact grown_trans (by assumption) hg4.out | exact grown_trans (grown_trans (by assumption) (World.grownBy_alloc _ _ _)) hg4.out)))
  · have hfin : Hid (w1.grownBy (w4.alloc (.cells #[.pointer (some ⟨w3.heap.size, 0, none⟩), .slice af' n cf', .int .u64 (T : Nat), .int .u64 (R : Nat), .int .u64 0, .int .i64 0] 100)) none ∧ ArAt (w4.alloc (.cells #[.pointer (some ⟨w3.heap.size, 0, none⟩), .slice af' n cf', .int .u64 (T : Nat), .int .u64 (R : Nat), .int .u64 0, .int .i64 0] 100)) w.heap.size w4.heap.size w3.heap.size S nm D fs T R) := popen_fin1 Hn.out hsw1 gg3 hoe.out (by first | exact (show w1.heap.size ≤ w1.drew.heap.size from Nat.le_refl _) | exact Nat.le_refl _) hof.out hg4.out
    have HW := Lib.hid (grown_trans (grown_trans G0.out hg1.out) hfin.out.1)
    have c4 := (HK.out _ hfin.out.1).2.2.2.2.1
    have HA := Lib.hid hfin.out.2
    clear hfin
    generalize w4.alloc (.cells #[.pointer (some ⟨w3.heap.size, 0, none⟩), .slice af' n cf', .int .u64 (T : Nat), .int .u64 (R : Nat), .int .u64 0, .int .i64 0] 100) = W at HW HA c4 ⊢
    go_wp2_with fail
    go_ret2
    exact ⟨_, _, rfl, HA, HW⟩
  · have hfin : Hid (w1.grownBy ((w4.alloc (.cells #[.int .i64 (S : Nat), .slice ae' 1 ce', .slice aw' 0 cw', .int .i64 (-1), .bool false] 59)).alloc (.cells #[.pointer (some ⟨w4.heap.size, 0, none⟩), .slice af' n cf', .int .u64 (T : Nat), .int .u64 (R : Nat), .int .u64 0, .int .i64 0] 100)) none ∧ ArAt ((w4.alloc (.cells #[.int .i64 (S : Nat), .slice ae' 1 ce', .slice aw' 0 cw', .int .i64 (-1), .bool false] 59)).alloc (.cells #[.pointer (some ⟨w4.heap.size, 0, none⟩), .slice af' n cf', .int .u64 (T : Nat), .int .u64 (R : Nat), .int .u64 0, .int .i64 0] 100)) w.heap.size (w4.heap.size + 1) w4.heap.size S nm D fs T R) := popen_fin2 Hn.out hsw1 gg3 hoe.out (by first | exact (show w1.heap.size ≤ w1.drew.heap.size from Nat.le_refl _) | exact Nat.le_refl _) hof.out hg4.out
    have HW := Lib.hid (grown_trans (grown_trans G0.out hg1.out) hfin.out.1)
    have c4 := (HK.out _ hfin.out.1).2.2.2.2.1
    have HA := Lib.hid hfin.out.2
    clear hfin
    generalize (w4.alloc (.cells #[.int .i64 (S : Nat), .slice ae' 1 ce', .slice aw' 0 cw', .int .i64 (-1), .bool false] 59)).alloc (.cells #[.pointer (some ⟨w4.heap.size, 0, none⟩), .slice af' n cf', .int .u64 (T : Nat), .int .u64 (R : Nat), .int .u64 0, .int .i64 0] 100) = W at HW HA c4 ⊢
    go_wp2_with fail
    go_ret2
    exact ⟨_, _, rfl, HA, HW⟩
end Go.Proofs.YtihohljhjdmamaaGreat
