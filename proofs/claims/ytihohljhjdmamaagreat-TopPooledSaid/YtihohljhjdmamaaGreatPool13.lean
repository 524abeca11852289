/- pool: Look, each, Unpin. -/
import Derived.Test.YtihohljhjdmamaaGreatPool12
namespace Go.Proofs.YtihohljhjdmamaaGreat
open Go.RowKit
set_option linter.unusedVariables false

/-- a right pool of a disk: what its calls ask -/
structure PoolOk (S m T : Nat) (nm D : ByteArray) (fs : List (Nat × Nat)) : Prop where
  good : Good S nm (some D) []
  size : D.size = 64 * m
  few : m ≤ 16384
  fs : FsOk m T fs
  tick : T ≤ 1000000
set_option maxRecDepth 100000 in
set_option maxHeartbeats 4000000 in
theorem plook_any {S m T R k t p : Nat} {nm D : ByteArray} {fs : List (Nat × Nat)} (hok : PoolOk S m T nm D fs) (hf : fs[k]? = some (t, p + 1)) (v : Value) (w : World) (hv : PlAt w S nm D fs T R v) :
    Calls Tryz.prog 10 #[v, .int .i64 (k : Nat)] w fun e w' => e = .returned (.tuple #[.string (datO D (t, p + 1)), .int .i64 0]) ∧ Hid (w.grownBy w' none) := by
  have HO : Hid (∀ W, w.grownBy W none → Calls Tryz.prog 23 #[v] W fun e w' => ∃ a b, e = .returned (.tuple #[.pointer (some ⟨a, 0, none⟩), .int .i64 0]) ∧ Hid (ArAt w' W.heap.size a b S nm D fs T R) ∧ Hid (W.grownBy w' none)) := fun W hW => popen_any hok.good hok.size hok.few hok.fs hok.tick v W (hv.grown hW)
  have hfew := hok.fs.few
  have HP := Lib.hid (fun (W : World) (B a b : Nat) (hB : B ≤ W.heap.size) (ha : ArAt W B a b S nm D fs T R) => pinned_any hf hfew W hB ha)
  have HL := Lib.hid (fun (W : World) (B a b : Nat) (hB : B ≤ W.heap.size) (ha : ArAt W B a b S nm D fs T R) => alook_any hf hfew W hB ha)
  obtain ⟨ae, ce, aw, cw, af, cf, hcf, rfl, _, _, _⟩ := hv.form
  clear hok hv hcf
  generalize fs.length = n at HO ⊢
  generalize datO D (t, p + 1) = d at HL ⊢
  have g0 := Lib.hid (World.grownBy_alloc w (.cells #[.int .i64 (S : Nat), .slice ae 1 ce, .slice aw 0 cw, .int .i64 (-1), .bool false, .slice af n cf, .int .u64 (T : Nat), .int .u64 (R : Nat), .int .u64 0] 36) none)
  obtain ⟨c0, c1, c2, c3, c4, c5, c6, c7, c8⟩ := (row9 (heap_alloc_new w (.cells #[.int .i64 (S : Nat), .slice ae 1 ce, .slice aw 0 cw, .int .i64 (-1), .bool false, .slice af n cf, .int .u64 (T : Nat), .int .u64 (R : Nat), .int .u64 0] 36))).1
  go_enter Tryz.func10, Tryz.ntmps10
  go_wp2_with fail
  (with_reducible refine (HO.out _ g0.out).mono ?_)
  rintro e w1 ⟨a, b, rfl, hA, hg1⟩
  have HB : Hid ((w.alloc (.cells #[.int .i64 (S : Nat), .slice ae 1 ce, .slice aw 0 cw, .int .i64 (-1), .bool false, .slice af n cf, .int .u64 (T : Nat), .int .u64 (R : Nat), .int .u64 0] 36)).heap.size ≤ w1.heap.size) := hg1.out.size
  clear c0 c1 c2 c3 c4 c5 c6 c7 c8
  simp only []
  go_wp2_with fail
  (with_reducible refine (HP.out _ _ _ _ HB.out hA.out).mono ?_)
  rintro e w2 ⟨rfl, hw2⟩
  obtain rfl : w1 = w2 := hw2.symm
  simp only []
  go_wp2_with fail
  (with_reducible refine (HL.out _ _ _ _ HB.out hA.out).mono ?_)
  rintro e w2 ⟨rfl, hw2⟩
  obtain rfl : w1 = w2 := hw2.symm
  simp only []
  go_wp2_with fail
  go_ret2
  exact ⟨rfl, grown_trans g0.out hg1.out⟩

set_option maxRecDepth 100000 in
set_option maxHeartbeats 8000000 in
theorem each_any {S m T R k t p h : Nat} {nm D : ByteArray} {fs : List (Nat × Nat)} (hok : PoolOk S m T nm D fs) (hf : fs[k]? = some (t, p + 1)) (hp : p ≤ 256) (v : Value) (w : World) (hv : PlAt w S nm D fs T R v) (hh : w.cell? ⟨h, 0, none⟩ = some (.int .i64 (k : Nat))) :
    Calls Tryz.prog 27 #[v, .slice (some ⟨h, 0, none⟩) 1 1, .func (.func 28) #[] #[]] w fun e w' => ∃ q, e = .returned (.tuple #[q, .int .i64 0]) ∧ Hid (PlAt w' S nm D (fs.set k (t, p)) T R q) ∧ Hid (w.grownBy w' none) := by
  have HS := Lib.hid pool_size
  have HO : Hid (∀ W, w.grownBy W none → Calls Tryz.prog 23 #[v] W fun e w' => ∃ a b, e = .returned (.tuple #[.pointer (some ⟨a, 0, none⟩), .int .i64 0]) ∧ Hid (ArAt w' W.heap.size a b S nm D fs T R) ∧ Hid (W.grownBy w' none)) := fun W hW => popen_any hok.good hok.size hok.few hok.fs hok.tick v W (hv.grown hW)
  have hfew := hok.fs.few
  have HU := Lib.hid (fun (W : World) (B a b : Nat) (hB : B ≤ W.heap.size) (ha : ArAt W B a b S nm D fs T R) => aunpin_any hf hfew hp W hB ha)
  have HPl := Lib.hid (fun (W : World) (B a b : Nat) (ha : ArAt W B a b S nm D (fs.set k (t, p)) T R) => plain_any W ha)
  have Hh : Hid (∀ W, w.grownBy W none → W.cell? ⟨h, 0, none⟩ = some (.int .i64 (k : Nat))) := fun W hW => hW.cell hh (by simp)
  obtain ⟨ae, ce, aw, cw, af, cf, hcf, rfl, _, _, _⟩ := hv.form
  have Hln : Hid ((fs.set k (t, p)).length = fs.length) := List.length_set ..
  clear hok hv hcf hh
  generalize hfn : fs.length = n at HO Hln ⊢
  clear hfn
  obtain ⟨q0, q1, hsz⟩ := two_blocks w (.cells #[.int .i64 (S : Nat), .slice ae 1 ce, .slice aw 0 cw, .int .i64 (-1), .bool false, .slice af n cf, .int .u64 (T : Nat), .int .u64 (R : Nat), .int .u64 0] 36) (.cells #[.int .i64 0, .slice none 0 0, .slice none 0 0, .int .i64 0, .bool false, .slice none 0 0, .int .u64 0, .int .u64 0, .int .u64 0] 36)
  have g0 := Lib.hid (grown_trans (World.grownBy_alloc w (.cells #[.int .i64 (S : Nat), .slice ae 1 ce, .slice aw 0 cw, .int .i64 (-1), .bool false, .slice af n cf, .int .u64 (T : Nat), .int .u64 (R : Nat), .int .u64 0] 36) none) (World.grownBy_alloc _ (.cells #[.int .i64 0, .slice none 0 0, .slice none 0 0, .int .i64 0, .bool false, .slice none 0 0, .int .u64 0, .int .u64 0, .int .u64 0] 36) none))
  have HF := Lib.hid (fun W (hW : World.grownBy _ W none) => And.intro (row_kept (w' := W) q1 hW (by simp)) (row9 (row_kept (w' := W) q1 hW (by simp))))
  obtain ⟨c0, c1, c2, c3, c4, c5, c6, c7, c8⟩ := (row9 q0).1
  clear q0 q1 hsz
  go_enter Tryz.func27, Tryz.ntmps27
  go_wp2_with fail
  clear c0 c1 c2 c3 c4 c5 c6 c7 c8
  generalize (w.alloc (.cells #[.int .i64 (S : Nat), .slice ae 1 ce, .slice aw 0 cw, .int .i64 (-1), .bool false, .slice af n cf, .int .u64 (T : Nat), .int .u64 (R : Nat), .int .u64 0] 36)).alloc (.cells #[.int .i64 0, .slice none 0 0, .slice none 0 0, .int .i64 0, .bool false, .slice none 0 0, .int .u64 0, .int .u64 0, .int .u64 0] 36) = w0 at g0 HF ⊢
  obtain ⟨P, hP⟩ : ∃ P, P = w.heap.size := ⟨_, rfl⟩
  rw [← hP] at HF ⊢
  have HPe := Lib.hid hP
  clear hP
  (with_reducible refine (HO.out _ g0.out).mono ?_)
  rintro e w1 ⟨a, b, rfl, hA, hg1⟩
  simp only []
  go_wp2_with fail
  go_loopw [27] (fun iv wr => ∃ i : Nat, iv = .int .i64 (i : Nat) ∧ i ≤ 1 ∧ Hid (i = 0 → ArAt wr w0.heap.size a b S nm D fs T R) ∧ Hid (i = 1 → ArAt wr w0.heap.size a b S nm D (fs.set k (t, p)) T R) ∧ Hid (w0.grownBy wr none)) (fun iv _ => 1 - (intOf iv).toNat)
  case atStart => exact ⟨0, rfl, by omega, fun _ => hA.out, fun h => by omega, hg1⟩
  case round =>
    clear hA hg1
    obtain ⟨i, rfl, hi, hA0, hA1, hg⟩ := hrel
    have HB : Hid (w0.heap.size ≤ wr.heap.size) := hg.out.size
    by_cases hlt : i < 1
    · obtain rfl : i = 0 := by omega
      have ck := Hh.out wr (grown_trans g0.out hg.out)
      have HU1 := Lib.hid (HU.out wr _ a b HB.out (hA0.out rfl))
      clear hA0 hA1
      go_wp2_with fail
      (with_reducible refine HU1.out.mono ?_)
      rintro e w2 ⟨rfl, hA2, hb2⟩
      clear ck
      simp only []
      go_wp2_with fail
      exact ⟨⟨1, rfl, by omega, fun h => by omega, fun _ => hA2.out, grown_bel ((bel_grown hg.out (Nat.le_refl _)).trans hb2.out) none⟩, by simp [intOf]⟩
    · obtain rfl : i = 1 := by omega
      have HP1 := Lib.hid (HPl.out wr _ a b (hA1.out rfl))
      clear hA0 hA1
      go_wp2_with fail
      (with_reducible refine HP1.out.mono ?_)
      rintro e w3 ⟨q, rfl, hq, hg3⟩
      obtain ⟨ae', ce', aw', cw', af', cf', hcf', rfl, h3e, h3w, h3f⟩ := hq.out.form
      obtain ⟨hrow3, ⟨c0, c1, c2, c3, c4, c5, c6, c7, c8⟩, hfz⟩ := HF.out w3 (grown_trans hg.out hg3.out)
      have Hrow3 := Lib.hid hrow3
      have H3 := Lib.hid (And.intro hcf' (And.intro h3e (And.intro h3w h3f)))
      clear hrow3 hcf' h3e h3w h3f
      rw [Hln.out]
      simp only []
      go_wp2_with fail
      clear c0 c1 c2 c3 c4 c5 c6 c7 c8 hfz
      obtain ⟨hr1, hr2, hr3⟩ := put_pool (w := w) (T := T) (R := R) n Hln.out (T : Nat) (R : Nat) rfl rfl Hrow3.out H3.out.1 H3.out.2.1 H3.out.2.2.1 H3.out.2.2.2 (grown_trans g0.out (grown_trans hg.out hg3.out)) (by have := HPe.out; omega)
      generalize (((((((((w3.setCell ⟨P + 1, 0, none⟩ (.int .i64 (S : Nat))).setCell ⟨P + 1, 1, none⟩ (.slice ae' 1 ce')).setCell ⟨P + 1, 2, none⟩ (.slice aw' 0 cw')).setCell ⟨P + 1, 3, none⟩ (.int .i64 (-1))).setCell ⟨P + 1, 4, none⟩ (.bool false)).setCell ⟨P + 1, 5, none⟩ (.slice af' n cf')).setCell ⟨P + 1, 6, none⟩ (.int .u64 (T : Nat))).setCell ⟨P + 1, 7, none⟩ (.int .u64 (R : Nat))).setCell ⟨P + 1, 8, none⟩ (.int .u64 0)) = W at hr1 hr2 hr3 ⊢
      refine bodyPost_ret (results_row_tmp (fn := Tryz.f27) (p := 6) (q := 7) (ty := 36) rfl _ _ (P + 1) 36 _ _ _ rfl hr1 Tryz.underlying36 rfl HS.out) rfl ?_
      exact ⟨_, rfl, hr2, hr3⟩

set_option maxRecDepth 100000 in
set_option maxHeartbeats 8000000 in
theorem punpin_any {S m T R k t p h : Nat} {nm D : ByteArray} {fs : List (Nat × Nat)} (hok : PoolOk S m T nm D fs) (hf : fs[k]? = some (t, p + 1)) (hp : p ≤ 256) (v : Value) (w : World) (hv : PlAt w S nm D fs T R v) (hh : w.cell? ⟨h, 0, none⟩ = some (.int .i64 (k : Nat))) :
    Calls Tryz.prog 11 #[v, .slice (some ⟨h, 0, none⟩) 1 1] w fun e w' => ∃ q, e = .returned (.tuple #[q, .int .i64 0]) ∧ Hid (PlAt w' S nm D (fs.set k (t, p)) T R q) ∧ Hid (w.grownBy w' none) := by
  have HS := Lib.hid pool_size
  have HE := Lib.hid (fun W (hW : w.grownBy W none) => each_any hok hf hp v W (hv.grown hW) (hW.cell hh (by simp)))
  obtain ⟨ae, ce, aw, cw, af, cf, hcf, rfl, _, _, _⟩ := hv.form
  have Hln : Hid ((fs.set k (t, p)).length = fs.length) := List.length_set ..
  clear hok hv hcf hh hf
  generalize hfn : fs.length = n at HE Hln ⊢
  clear hfn
  obtain ⟨q0, q1, hsz⟩ := two_blocks w (.cells #[.int .i64 (S : Nat), .slice ae 1 ce, .slice aw 0 cw, .int .i64 (-1), .bool false, .slice af n cf, .int .u64 (T : Nat), .int .u64 (R : Nat), .int .u64 0] 36) (.cells #[.int .i64 0, .slice none 0 0, .slice none 0 0, .int .i64 0, .bool false, .slice none 0 0, .int .u64 0, .int .u64 0, .int .u64 0] 36)
  have g0 := Lib.hid (grown_trans (World.grownBy_alloc w (.cells #[.int .i64 (S : Nat), .slice ae 1 ce, .slice aw 0 cw, .int .i64 (-1), .bool false, .slice af n cf, .int .u64 (T : Nat), .int .u64 (R : Nat), .int .u64 0] 36) none) (World.grownBy_alloc _ (.cells #[.int .i64 0, .slice none 0 0, .slice none 0 0, .int .i64 0, .bool false, .slice none 0 0, .int .u64 0, .int .u64 0, .int .u64 0] 36) none))
  have HF := Lib.hid (fun W (hW : World.grownBy _ W none) => And.intro (row_kept (w' := W) q1 hW (by simp)) (row9 (row_kept (w' := W) q1 hW (by simp))))
  obtain ⟨c0, c1, c2, c3, c4, c5, c6, c7, c8⟩ := (row9 q0).1
  clear q0 q1 hsz
  go_enter Tryz.func11, Tryz.ntmps11
  go_wp2_with fail
  clear c0 c1 c2 c3 c4 c5 c6 c7 c8
  generalize (w.alloc (.cells #[.int .i64 (S : Nat), .slice ae 1 ce, .slice aw 0 cw, .int .i64 (-1), .bool false, .slice af n cf, .int .u64 (T : Nat), .int .u64 (R : Nat), .int .u64 0] 36)).alloc (.cells #[.int .i64 0, .slice none 0 0, .slice none 0 0, .int .i64 0, .bool false, .slice none 0 0, .int .u64 0, .int .u64 0, .int .u64 0] 36) = w0 at g0 HF ⊢
  obtain ⟨P, hP⟩ : ∃ P, P = w.heap.size := ⟨_, rfl⟩
  rw [← hP] at HF ⊢
  have HPe := Lib.hid hP
  clear hP
  (with_reducible refine (HE.out _ g0.out).mono ?_)
  rintro e w3 ⟨q, rfl, hq, hg3⟩
  obtain ⟨ae', ce', aw', cw', af', cf', hcf', rfl, h3e, h3w, h3f⟩ := hq.out.form
  obtain ⟨hrow3, ⟨c0, c1, c2, c3, c4, c5, c6, c7, c8⟩, hfz⟩ := HF.out w3 hg3.out
  have Hrow3 := Lib.hid hrow3
  have H3 := Lib.hid (And.intro hcf' (And.intro h3e (And.intro h3w h3f)))
  clear hrow3 hcf' h3e h3w h3f
  rw [Hln.out]
  simp only []
  go_wp2_with fail
  clear c0 c1 c2 c3 c4 c5 c6 c7 c8 hfz
  obtain ⟨hr1, hr2, hr3⟩ := put_pool (w := w) (T := T) (R := R) n Hln.out (T : Nat) (R : Nat) rfl rfl Hrow3.out H3.out.1 H3.out.2.1 H3.out.2.2.1 H3.out.2.2.2 (grown_trans g0.out hg3.out) (by have := HPe.out; omega)
  generalize (((((((((w3.setCell ⟨P + 1, 0, none⟩ (.int .i64 (S : Nat))).setCell ⟨P + 1, 1, none⟩ (.slice ae' 1 ce')).setCell ⟨P + 1, 2, none⟩ (.slice aw' 0 cw')).setCell ⟨P + 1, 3, none⟩ (.int .i64 (-1))).setCell ⟨P + 1, 4, none⟩ (.bool false)).setCell ⟨P + 1, 5, none⟩ (.slice af' n cf')).setCell ⟨P + 1, 6, none⟩ (.int .u64 (T : Nat))).setCell ⟨P + 1, 7, none⟩ (.int .u64 (R : Nat))).setCell ⟨P + 1, 8, none⟩ (.int .u64 0)) = W at hr1 hr2 hr3 ⊢
  refine bodyPost_ret (results_row_tmp (fn := Tryz.f11) (p := 4) (q := 5) (ty := 36) rfl _ _ (P + 1) 36 _ _ _ rfl hr1 Tryz.underlying36 rfl HS.out) rfl ?_
  exact ⟨_, rfl, hr2, hr3⟩
end Go.Proofs.YtihohljhjdmamaaGreat
