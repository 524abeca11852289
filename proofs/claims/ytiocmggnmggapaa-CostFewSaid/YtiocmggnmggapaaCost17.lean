/- The walks of the statements on a sort's files and plan, on levels, on the logarithm. -/
import Derived.Test.YtiocmggnmggapaaCost16
namespace Go.Proofs.Ytiocmggnmggapaa
open Go.RowKit CostPlain
set_option linter.unusedVariables false

theorem wf_u64 {n : Int} (h : (Lit.int .u64 n).wf = true) : ∃ m : Nat, m < 18446744073709551616 ∧ n = (m : Int) := by
  simp [Lit.wf, IntKind.min, IntKind.max, IntKind.signed, IntKind.bits] at h
  exact ⟨n.toNat, by omega, by omega⟩
theorem same_k (u v : Value) (ls : List (List Nat)) (w : World) (hu : ListsAt w u ls) (hv : ListsAt w v ls) :
    Calls Try.prog 14 #[u, v] w fun e w' => e = .returned (.bool true) ∧ Hid (w.grownBy w' none) :=
  (same_any w u v ls hu hv).mono fun e w' ⟨h1, n, h2⟩ => ⟨h1, by subst h2; exact grown_drewN w n none⟩
theorem one_k (u v : Value) (xs : List Nat) (w : World) (hu : NumsAt w u xs) (hv : NumsAt w v xs) :
    Calls Try.prog 21 #[u, v] w fun e w' => e = .returned (.bool true) ∧ Hid (w.grownBy w' none) :=
  (same_one w u v xs hu hv).mono fun e w' ⟨h1, n, h2⟩ => ⟨h1, by subst h2; exact grown_drewN w n none⟩

set_option maxRecDepth 100000 in
set_option maxHeartbeats 8000000 in
theorem costSorts_walk (a0 : Int) (a1 : Int) (a2 : Int) (w0 : (Lit.int .i64 a0).wf = true) (w1 : (Lit.int .i64 a1).wf = true) (w2 : (Lit.int .u64 a2).wf = true) (w : World) :
    Calls Try.prog 3 #[.int .i64 a0, .int .i64 a1, .int .u64 a2] w fun e w' => e = .returned (.bool true) ∧ Below w.heap.size w w' := by
  obtain ⟨c, hc, rfl⟩ := wf_u64 w2
  have HF := Lib.hid (fun w => files_any a0 a1 c hc w)
  have HR := Lib.hid (fun w => rfiles_any a0 a1 c hc w)
  have HS := Lib.hid (fun w => sort_any a0 a1 c hc w)
  have HT := Lib.hid (fun w => rsort_any a0 a1 c hc w)
  have HV := Lib.hid lives_any
  unfold planV at HS HT
  obtain ⟨C, hC⟩ : ∃ C, C = mnC a0 a1 c := ⟨_, rfl⟩
  obtain ⟨ls, hls⟩ : ∃ ls, ls = files a0 a1 c := ⟨_, rfl⟩
  obtain ⟨r, hr⟩ : ∃ r, r = mnN a0 a1 c := ⟨_, rfl⟩
  rw [← hC, ← hls] at HF HR
  rw [← hC, ← hls, ← hr] at HS HT
  obtain ⟨p, hp⟩ : ∃ p, p = ls.length - 1 := ⟨_, rfl⟩
  obtain ⟨s, hs⟩ : ∃ s, s = sec a1 ls := ⟨_, rfl⟩
  rw [← hp, ← hs] at HS HT
  clear hC hls hr hp hs w0 w1 w2
  go_enter Try.func3, Try.ntmps3
  go_wp2_with fail
  refine (HF.out _).mono ?_
  rintro e w1 ⟨v1, rfl, hv1, hg1⟩
  simp only []
  go_wp2_with fail
  refine (HR.out _).mono ?_
  rintro e w2 ⟨v2, rfl, hv2, hg2⟩
  simp only []
  go_wp2_with fail
  refine (HS.out _).mono ?_
  rintro e w3 ⟨rfl, hg3⟩
  simp only []
  go_wp2_with fail
  refine (HT.out _).mono ?_
  rintro e w4 ⟨rfl, hg4⟩
  simp only []
  go_wp2_with fail
  have q3 := heap_alloc_new w3 (.cells #[.int .i64 (r : Nat), .int .i64 (p : Nat), .int .u64 (s : Nat)] 28)
  have g3 := World.grownBy_alloc w3 (.cells #[.int .i64 (r : Nat), .int .i64 (p : Nat), .int .u64 (s : Nat)] 28) none
  have q4 := heap_alloc_new w4 (.cells #[.int .i64 (r : Nat), .int .i64 (p : Nat), .int .u64 (s : Nat)] 28)
  have g4 := World.grownBy_alloc w4 (.cells #[.int .i64 (r : Nat), .int .i64 (p : Nat), .int .u64 (s : Nat)] 28) none
  refine (HV.out _).mono ?_
  rintro e w5 ⟨rfl, hg5⟩
  simp only []
  have r3 := row_kept (row_kept (row_kept q3 hg4.out (by simp)) g4 (by simp)) hg5.out (by simp)
  have r4 := row_kept q4 hg5.out (by simp)
  have g25 := grown_trans hg3.out (grown_trans g3 (grown_trans hg4.out (grown_trans g4 hg5.out)))
  have HL1 := Lib.hid (hv1.grown (grown_trans hg2.out g25))
  have HL2 := Lib.hid (hv2.grown g25)
  have HG := Lib.hid (grown_trans hg1.out (grown_trans hg2.out g25))
  obtain ⟨p0, p1, p2, _, _, _⟩ := row3 r3
  obtain ⟨p3, p4, p5, _, _, _⟩ := row3 r4
  clear q3 g3 q4 g4 r3 r4 g25 hv1 hv2 hg1 hg2 hg3 hg4 hg5 HF HR HS HT HV
  go_wp2_with fail
  refine (same_any w5 v1 v2 ls HL1.out HL2.out).mono ?_
  rintro e w6 ⟨rfl, n, rfl⟩
  simp only []
  go_wp2_with fail
  go_ret
  exact ⟨rfl, bel_grown (grown_trans HG.out (grown_drewN w5 n none)) (Nat.le_refl _)⟩

set_option maxRecDepth 100000 in
set_option maxHeartbeats 8000000 in
theorem costLevels_walk (a0 : Int) (a1 : Int) (a2 : Int) (a3 : Int) (w0 : (Lit.int .i64 a0).wf = true) (w1 : (Lit.int .u64 a1).wf = true) (w2 : (Lit.int .u64 a2).wf = true) (w3 : (Lit.int .u64 a3).wf = true) (w : World) :
    Calls Try.prog 4 #[.int .i64 a0, .int .u64 a1, .int .u64 a2, .int .u64 a3] w fun e w' => e = .returned (.bool true) ∧ Below w.heap.size w w' := by
  obtain ⟨c, hc, rfl⟩ := wf_u64 w1
  obtain ⟨k, hk, rfl⟩ := wf_u64 w2
  obtain ⟨n, hn, rfl⟩ := wf_u64 w3
  have HF := Lib.hid (fun w => clevels_any a0 c hc w)
  have HR := Lib.hid (fun w => rclevels_any a0 c hc w)
  have HS := Lib.hid (fun w => crecords_any a0 c hc w)
  have HT := Lib.hid (fun w => rcrecords_any a0 c hc w)
  have HP := Lib.hid (fun w => log_any k n hk hn w)
  have HQ := Lib.hid (fun w => rlog_any k n hk hn w)
  have HV := Lib.hid lives_any
  obtain ⟨C, hC⟩ : ∃ C, C = lvC a0 c := ⟨_, rfl⟩
  obtain ⟨ls, hls⟩ : ∃ ls, ls = lvL a0 c := ⟨_, rfl⟩
  obtain ⟨r, hr⟩ : ∃ r, r = rcN a0 c := ⟨_, rfl⟩
  obtain ⟨D, hD⟩ : ∃ D, D = lgC k n := ⟨_, rfl⟩
  obtain ⟨t, ht⟩ : ∃ t, t = lgN k n := ⟨_, rfl⟩
  rw [← hC, ← hls] at HF HR
  rw [← hC, ← hr] at HS HT
  rw [← hD, ← ht] at HP HQ
  clear hC hls hr hD ht w0 w1 w2 w3
  go_enter Try.func4, Try.ntmps4
  go_wp2_with fail
  refine (HF.out _).mono ?_
  rintro e w1 ⟨v1, rfl, hv1, _, hg1⟩
  simp only []
  go_wp2_with fail
  refine (HR.out _).mono ?_
  rintro e w2 ⟨v2, rfl, hv2, _, hg2⟩
  simp only []
  go_wp2_with fail
  refine (HS.out _).mono ?_
  rintro e w3 ⟨rfl, hg3⟩
  simp only []
  go_wp2_with fail
  refine (HT.out _).mono ?_
  rintro e w4 ⟨rfl, hg4⟩
  simp only []
  go_wp2_with fail
  refine (HP.out _).mono ?_
  rintro e w5 ⟨rfl, rfl⟩
  simp only []
  go_wp2_with fail
  refine (HQ.out _).mono ?_
  rintro e w5 ⟨rfl, rfl⟩
  simp only []
  go_wp2_with fail
  refine (HV.out _).mono ?_
  rintro e w6 ⟨rfl, hg6⟩
  simp only []
  have g26 := grown_trans hg3.out (grown_trans hg4.out hg6.out)
  have HL1 := Lib.hid (hv1.grown (grown_trans hg2.out g26))
  have HL2 := Lib.hid (hv2.grown g26)
  have HG := Lib.hid (grown_trans hg1.out (grown_trans hg2.out g26))
  clear g26 hv1 hv2 hg1 hg2 hg3 hg4 hg6 HF HR HS HT HV HP HQ
  go_wp2_with fail
  refine (one_k v1 v2 ls w6 HL1.out HL2.out).mono ?_
  rintro e w7 ⟨rfl, hg7⟩
  simp only []
  go_wp2_with fail
  go_ret
  exact ⟨rfl, bel_grown (grown_trans HG.out hg7.out) (Nat.le_refl _)⟩
theorem big_div (k : Nat) (hk : 2 ≤ k) : (18446744073709551615 : Int) / (k : Int) = ((18446744073709551615 / k : Nat) : Int) := by rw [Int.natCast_ediv]; rfl

set_option maxRecDepth 100000 in
set_option maxHeartbeats 8000000 in
theorem costLog_walk (a0 : Int) (a1 : Int) (w0 : (Lit.int .u64 a0).wf = true) (w1 : (Lit.int .u64 a1).wf = true) (w : World) :
    Calls Try.prog 7 #[.int .u64 a0, .int .u64 a1] w fun e w' => e = .returned (.bool true) ∧ Below w.heap.size w w' := by
  obtain ⟨k, hk, rfl⟩ := wf_u64 w0
  obtain ⟨n, hn, rfl⟩ := wf_u64 w1
  have HP := fun w => log_any k n hk hn w
  have HV := Lib.hid lives_any
  clear w0 w1
  by_cases h : k < 2 ∨ n = 0
  · have e1 : lgC k n = 1 := by unfold lgC; rw [if_pos h]
    have e2 : lgN k n = 0 := by unfold lgN; rw [if_neg (by rw [e1]; decide)]
    rw [e1, e2] at HP
    have HP' := Lib.hid HP
    clear HP e1 e2
    by_cases h2 : k < 2
    · have hk2 : (k : Int) < 2 := by omega
      clear h
      go_enter Try.func7, Try.ntmps7
      go_wp2_with fail
      refine (HV.out _).mono ?_
      rintro e w6 ⟨rfl, hg6⟩
      simp only []
      go_wp2_with fail
      refine (HP'.out _).mono ?_
      rintro e w5 ⟨rfl, rfl⟩
      simp only []
      go_wp2_with fail
      go_ret
      exact ⟨rfl, bel_grown hg6.out (Nat.le_refl _)⟩
    · obtain rfl : n = 0 := by omega
      have hk2 : 2 ≤ (k : Int) := by omega
      clear h
      go_enter Try.func7, Try.ntmps7
      go_wp2_with fail
      refine (HV.out _).mono ?_
      rintro e w6 ⟨rfl, hg6⟩
      simp only []
      go_wp2_with fail
      refine (HP'.out _).mono ?_
      rintro e w5 ⟨rfl, rfl⟩
      simp only []
      go_wp2_with fail
      go_ret
      exact ⟨rfl, bel_grown hg6.out (Nat.le_refl _)⟩
  · have e1 : lgC k n = 0 := by unfold lgC; rw [if_neg h]
    have e2 : lgN k n = lg k n := by unfold lgN; rw [if_pos e1]
    rw [e1, e2] at HP
    have HP' := Lib.hid HP
    have hk2 : 2 ≤ k := by omega
    have hn1 : 1 ≤ n := by omega
    have ht := lg_lt64 k n hn
    have Hge : Hid (n ≤ k ^ lg k n) := lg_ge k hk2 n
    have Hlt : Hid (∀ i, i < lg k n → k ^ i < n) := lg_lt k hk2 n
    have Hlast : Hid (∀ i, i < lg k n → 18446744073709551615 / k < k ^ i → i + 1 = lg k n) := fun i hi h => lg_last hk2 hn hi h
    obtain ⟨t, hte⟩ : ∃ t, t = lg k n := ⟨_, rfl⟩
    rw [← hte] at HP' ht Hge Hlt Hlast
    have hbd := big_div k hk2
    obtain ⟨q, hq⟩ : ∃ q, q = 18446744073709551615 / k := ⟨_, rfl⟩
    rw [← hq] at Hlast hbd
    have HQ := Lib.hid hq
    have Hbd := Lib.hid hbd
    have hk2i : 2 ≤ (k : Int) := by omega
    clear HP e1 e2 h hte hq hbd
    go_enter Try.func7, Try.ntmps7
    go_wp2_with fail
    refine (HV.out _).mono ?_
    rintro e w6 ⟨rfl, hg6⟩
    simp only []
    go_wp2_with fail
    refine (HP'.out _).mono ?_
    rintro e w5 ⟨rfl, rfl⟩
    simp only []
    go_wp2_with fail
    go_loop [7, 8] (fun pv iv => ∃ i p : Nat, iv = .int .i64 (i : Nat) ∧ i ≤ t ∧ pv = .int .u64 (p : Nat) ∧ p < 18446744073709551616 ∧ Hid (p = k ^ i)) (fun _ iv => t - (intOf iv).toNat)
    case atStart => exact ⟨0, 1, rfl, Nat.zero_le _, rfl, by omega, by show _ = _; simp⟩
    case round =>
      obtain ⟨i, p, rfl, hi, rfl, hp, hpe⟩ := hrel
      by_cases hlt : i < t
      · have h1 := Hlt.out i hlt
        rw [← hpe.out] at h1
        have hbd := Hbd.out
        by_cases hov : q < p
        · have h2 := Hlast.out i hlt (by rw [← hpe.out]; exact hov)
          have hti : (i : Int) = (t : Int) - 1 := by omega
          have hit : (i : Int) < (t : Int) := by omega
          have hovi : (q : Int) < (p : Int) := by omega
          have hpn : (p : Int) < (n : Int) := by omega
          clear h2
          go_wp2_with fail
          go_ret
          exact ⟨rfl, bel_grown hg6.out (Nat.le_refl _)⟩
        · have hpq : p ≤ q := by omega
          have hmul : p * k < 18446744073709551616 := by
            have h3 : p * k ≤ q * k := Nat.mul_le_mul_right k hpq
            have h4 : q * k ≤ 18446744073709551615 := by rw [HQ.out]; exact Nat.div_mul_le_self _ _
            omega
          have Hpe : Hid (p * k = k ^ (i + 1)) := by show _ = _; rw [hpe.out, Nat.pow_succ]
          have hit : (i : Int) < (t : Int) := by omega
          have hpqi : (p : Int) ≤ (q : Int) := by omega
          have hpn : (p : Int) < (n : Int) := by omega
          have hw : IntKind.u64.wrap ((p : Int) * (k : Int)) = ((p * k : Nat) : Int) := by rw [← Int.natCast_mul]; exact wrap64u_in _ (by omega) (by omega)
          obtain ⟨m, hm⟩ : ∃ m, m = p * k := ⟨_, rfl⟩
          rw [← hm] at hw hmul Hpe
          clear hm
          go_wp2_with fail
          go_round
          case rel => exact ⟨i + 1, m, by go_num, by omega, rfl, hmul, Hpe⟩
          case measure => simp [intOf] <;> omega
      · obtain rfl : i = t := by omega
        have h1 := Hge.out
        rw [← hpe.out] at h1
        have hpn : (n : Int) ≤ (p : Int) := by omega
        go_wp2_with fail
        go_ret
        exact ⟨rfl, bel_grown hg6.out (Nat.le_refl _)⟩
end Go.Proofs.Ytiocmggnmggapaa
