/- Answers that the document gives. -/
import Derived.Test.YtiocmggnmggapaaCost15
import Derived.Test.YtiocmggnmggapaaSameN
namespace Go.Proofs.Ytiocmggnmggapaa
open Go.RowKit CostPlain
set_option linter.unusedVariables false

theorem lg_of {k n m t : Nat} (h : 1 < n) (hk : 2 ≤ k) (hm : (n - 1) / k + 1 = m) (ht : lg k m = t) : lg k n = t + 1 := by rw [lg_step h hk, hm, ht]
theorem lives_files : mnC 24 1 205 = 0 ∧ files 24 1 205 = [[204, 1], [205]] ∧ mnN 24 1 205 = 2 ∧ sec 1 (files 24 1 205) = 37 := by
  have e0 : mnC 24 1 205 = 0 := by decide
  have e1 : mnN 24 1 205 = 2 := by decide
  have e2 : szN 24 1 = 204 := by decide
  have e3 : frs 2 204 205 = [204, 1] := by decide
  have e4 : files 24 1 205 = [[204, 1], [205]] := by
    unfold files
    rw [if_pos e0, e1, e2, e3, fls_stop]
    · rfl
    · decide
  refine ⟨e0, e4, e1, ?_⟩
  rw [e4]; decide
theorem lives_levels : lvC 24 30 = 0 ∧ lvL 24 30 = [30, 20] ∧ rcN 24 30 = 90 := by
  have e0 : lvC 24 30 = 0 := by decide
  have e1 : bs 24 = 25 := by decide
  have e2 : nm 30 = 20 := by decide
  have e3 : lvL 24 30 = [30, 20] := by
    unfold lvL
    rw [if_pos e0, e1, lvs_step (by omega) (by omega), e2, lvs_stop (by omega)]
  refine ⟨e0, e3, ?_⟩
  unfold rcN
  rw [if_pos e0, e3]; decide
theorem lives_log : lgC 18 19 = 0 ∧ lgN 18 19 = 2 ∧ lgC 1 5 = 1 ∧ lgN 1 5 = 0 := by
  refine ⟨by decide, ?_, by decide, ?_⟩
  · unfold lgN
    rw [if_pos (by decide)]
    exact lg_of (m := 2) (by omega) (by omega) (by decide) (lg_of (m := 1) (by omega) (by omega) (by decide) (lg_one _ _ (by omega)))
  · unfold lgN
    rw [if_neg (by decide)]

theorem lives_lit (w : World) : ListsAt (((w.alloc (.cells #[.int .u64 204, .int .u64 1] 22)).alloc (.cells #[.int .u64 205] 22)).alloc (.cells #[.slice (some ⟨w.heap.size, 0, none⟩) 2 2, .slice (some ⟨w.heap.size + 1, 0, none⟩) 1 1] 34)) (.slice (some ⟨w.heap.size + 1 + 1, 0, none⟩) 2 2) [[204, 1], [205]] ∧
    w.grownBy (((w.alloc (.cells #[.int .u64 204, .int .u64 1] 22)).alloc (.cells #[.int .u64 205] 22)).alloc (.cells #[.slice (some ⟨w.heap.size, 0, none⟩) 2 2, .slice (some ⟨w.heap.size + 1, 0, none⟩) 1 1] 34)) none := by
  have g0 := World.grownBy_alloc w (.cells #[.int .u64 204, .int .u64 1] 22) none
  have q0 := heap_alloc_new w (.cells #[.int .u64 204, .int .u64 1] 22)
  have g1 := World.grownBy_alloc (w.alloc (.cells #[.int .u64 204, .int .u64 1] 22)) (.cells #[.int .u64 205] 22) none
  have q1 := heap_alloc_new (w.alloc (.cells #[.int .u64 204, .int .u64 1] 22)) (.cells #[.int .u64 205] 22)
  have g2 := World.grownBy_alloc ((w.alloc (.cells #[.int .u64 204, .int .u64 1] 22)).alloc (.cells #[.int .u64 205] 22)) (.cells #[.slice (some ⟨w.heap.size, 0, none⟩) 2 2, .slice (some ⟨w.heap.size + 1, 0, none⟩) 1 1] 34) none
  have q2 := heap_alloc_new ((w.alloc (.cells #[.int .u64 204, .int .u64 1] 22)).alloc (.cells #[.int .u64 205] 22)) (.cells #[.slice (some ⟨w.heap.size, 0, none⟩) 2 2, .slice (some ⟨w.heap.size + 1, 0, none⟩) 1 1] 34)
  simp only [World.size_alloc] at q1 q2
  refine ⟨.inr ⟨_, 2, [.slice (some ⟨w.heap.size, 0, none⟩) 2 2, .slice (some ⟨w.heap.size + 1, 0, none⟩) 1 1], rfl, Nat.le_refl _, by simp, fun j hj => ?_, fun j hj => ?_⟩, grown_trans g0 (grown_trans g1 g2)⟩
  · match j, hj with
    | 0, _ => exact row_cell q2 0 _ rfl
    | 1, _ => exact row_cell q2 1 _ rfl
  · match j, hj with
    | 0, _ => exact .inr ⟨_, 2, rfl, Nat.le_refl _, by simp, fun i hi => by
        match i, hi with
        | 0, _ => exact row_cell (row_kept (row_kept q0 g1 (by simp)) g2 (by simp)) 0 _ rfl
        | 1, _ => exact row_cell (row_kept (row_kept q0 g1 (by simp)) g2 (by simp)) 1 _ rfl⟩
    | 1, _ => exact .inr ⟨_, 1, rfl, Nat.le_refl _, by simp, fun i hi => by
        match i, hi with
        | 0, _ => exact row_cell (row_kept q1 g2 (by simp)) 0 _ rfl⟩

set_option maxRecDepth 100000 in
set_option maxHeartbeats 8000000 in
theorem lives_any (w : World) : Calls Try.prog 13 #[] w fun e w' => e = .returned (.bool true) ∧ Hid (w.grownBy w' none) := by
  have HF : Hid (∀ w, Calls Try.prog 9 #[.int .i64 24, .int .i64 1, .int .u64 205] w fun e w' => ∃ v, e = .returned (.tuple #[v, .int .i64 0]) ∧ ListsAt w' v [[204, 1], [205]] ∧ Hid (w.grownBy w' none)) := fun w => by
    have h := files_any 24 1 205 (by omega) w
    obtain ⟨h1, h2, _, _⟩ := lives_files
    rw [h1, h2] at h
    exact h
  have HSo : Hid (∀ w, Calls Try.prog 11 #[.int .i64 24, .int .i64 1, .int .u64 205] w fun e w' => e = .returned (.tuple #[.agg #[.int .i64 2, .int .i64 1, .int .u64 37], .int .i64 0]) ∧ Hid (w.grownBy w' none)) := fun w => by
    have h := sort_any 24 1 205 (by omega) w
    obtain ⟨h1, h2, h3, h4⟩ := lives_files
    rw [h1, h4, h2, h3] at h
    exact h
  have HL : Hid (∀ w, Calls Try.prog 15 #[.int .i64 24, .int .u64 30] w fun e w' => ∃ v, e = .returned (.tuple #[v, .int .i64 0]) ∧ NumsAt w' v [30, 20] ∧ Hid (w.grownBy w' none)) := fun w => by
    have h := clevels_any 24 30 (by omega) w
    obtain ⟨h1, h2, h3⟩ := lives_levels
    rw [h1, h2] at h
    exact h.mono fun e w' ⟨v, h1, h2, _, h3⟩ => ⟨v, h1, h2, h3⟩
  have HR : Hid (∀ w, Calls Try.prog 17 #[.int .i64 24, .int .u64 30] w fun e w' => e = .returned (.tuple #[.int .u64 90, .int .i64 0]) ∧ Hid (w.grownBy w' none)) := fun w => by
    have h := crecords_any 24 30 (by omega) w
    obtain ⟨h1, h2, h3⟩ := lives_levels
    rw [h1, h3] at h
    exact h
  have HG1 : Hid (∀ w, Calls Try.prog 19 #[.int .u64 18, .int .u64 19] w fun e w' => e = .returned (.tuple #[.int .i64 2, .int .i64 0]) ∧ w' = w) := fun w => by
    have h := log_any 18 19 (by omega) (by omega) w
    obtain ⟨h1, h2, h3, h4⟩ := lives_log
    rw [h1, h2] at h
    exact h
  have HG2 : Hid (∀ w, Calls Try.prog 19 #[.int .u64 1, .int .u64 5] w fun e w' => e = .returned (.tuple #[.int .i64 0, .int .i64 1]) ∧ w' = w) := fun w => by
    have h := log_any 1 5 (by omega) (by omega) w
    obtain ⟨h1, h2, h3, h4⟩ := lives_log
    rw [h3, h4] at h
    exact h
  go_enter Try.func13, Try.ntmps13
  go_wp2_with fail
  refine (HF.out _).mono ?_
  rintro e w1 ⟨v1, rfl, hv1, hg1⟩
  simp only []
  go_wp2_with fail
  refine (HSo.out _).mono ?_
  rintro e w2 ⟨rfl, hg2⟩
  simp only []
  go_wp2_with fail
  refine (HL.out _).mono ?_
  rintro e w3 ⟨v3, rfl, hv3, hg3⟩
  simp only []
  go_wp2_with fail
  refine (HR.out _).mono ?_
  rintro e w4 ⟨rfl, hg4⟩
  simp only []
  go_wp2_with fail
  refine (HG1.out _).mono ?_
  rintro e w5 ⟨rfl, rfl⟩
  simp only []
  go_wp2_with fail
  refine (HG2.out _).mono ?_
  rintro e w6 ⟨rfl, rfl⟩
  simp only []
  go_wp2_with fail
  have gp := World.grownBy_alloc w2 (.cells #[.int .i64 2, .int .i64 1, .int .u64 37] 28) none
  have qp := heap_alloc_new w2 (.cells #[.int .i64 2, .int .i64 1, .int .u64 37] 28)
  have r6 := row_kept (row_kept qp hg3.out (by simp)) hg4.out (by simp)
  have g26 := grown_trans gp (grown_trans hg3.out hg4.out)
  have g06 := grown_trans hg1.out (grown_trans hg2.out g26)
  have hv6 := hv1.grown (grown_trans hg2.out g26)
  have hn6 := hv3.below (bel_grown hg4.out (Nat.le_refl _))
  obtain ⟨hl, gl⟩ := lives_lit w6
  have rW := row_kept r6 gl (by simp)
  have gW := grown_trans g06 gl
  have hvW := hv6.grown gl
  have hnW := hn6.below (bel_grown gl (Nat.le_refl _))
  generalize (((w6.alloc (.cells #[.int .u64 204, .int .u64 1] 22)).alloc (.cells #[.int .u64 205] 22)).alloc (.cells #[.slice (some ⟨w6.heap.size, 0, none⟩) 2 2, .slice (some ⟨w6.heap.size + 1, 0, none⟩) 1 1] 34)) = W at *
  have HsA := Lib.hid (same_any W v1 _ _ hvW hl)
  have HsB := Lib.hid (fun n => same_one ((W.drewN n).alloc (.cells #[.int .u64 30, .int .u64 20] 22)) v3 _ [30, 20] ((hnW.drewN n).below (bel_grown (World.grownBy_alloc _ _ none) (Nat.le_refl _))) (NumsAt.new (W.drewN n) [30, 20] 22 (by simp [maxLen]) 2))
  have HgB := Lib.hid (fun n m => grown_trans gW (grown_trans (grown_drewN W n none) (grown_trans (World.grownBy_alloc (W.drewN n) (.cells #[.int .u64 30, .int .u64 20] 22) none) (grown_drewN ((W.drewN n).alloc (.cells #[.int .u64 30, .int .u64 20] 22)) m none))))
  obtain ⟨p0, p1, p2, _, _, _⟩ := row3 rW
  clear rW gW hvW hnW hl gl r6 g26 g06 hv6 hn6 gp qp hv1 hv3 hg1 hg2 hg3 hg4 HF HSo HL HR HG1 HG2
  refine HsA.out.mono ?_
  rintro e w7 ⟨rfl, n, rfl⟩
  simp only []
  go_wp2_with fail
  refine (HsB.out n).mono ?_
  rintro e w8 ⟨rfl, m, rfl⟩
  simp only []
  go_wp2_with fail
  go_ret
  exact ⟨rfl, HgB.out n m⟩
end Go.Proofs.Ytiocmggnmggapaa
