/- The walk of the statement on all records. -/
import Derived.Test.YtiocmggnmggapaaCost17
namespace Go.Proofs.Ytiocmggnmggapaa
open Go.RowKit CostPlain
set_option linter.unusedVariables false

theorem sum_take_le (l : List Nat) (j : Nat) : (l.take j).sum ≤ l.sum := by
  have := sum_take_drop_le l 0 j
  rwa [List.drop_zero] at this
theorem sum_take_succ {l : List Nat} {j : Nat} (h : j < l.length) : (l.take (j + 1)).sum = (l.take j).sum + l.getD j 0 := by
  rw [List.take_succ_eq_append_getElem h, List.sum_append]; simp [List.getD, h]

set_option maxRecDepth 100000 in
set_option maxHeartbeats 8000000 in
theorem costAll_walk (a0 : Int) (a1 : Int) (a2 : Int) (w0 : (Lit.int .i64 a0).wf = true) (w1 : (Lit.int .i64 a1).wf = true) (w2 : (Lit.int .u64 a2).wf = true) (w : World) :
    Calls Try.prog 5 #[.int .i64 a0, .int .i64 a1, .int .u64 a2] w fun e w' => e = .returned (.bool true) ∧ Below w.heap.size w w' := by
  obtain ⟨c, hc, rfl⟩ := wf_u64 w2
  have HF := fun w => files_any a0 a1 c hc w
  have HM := fun w => many_any a0 a1 c hc w
  have HN := fun w => fan_any a0 w
  have HV := Lib.hid lives_any
  clear w0 w1 w2
  by_cases h : mnC a0 a1 c = 0
  · obtain ⟨f1, f2, f3, f4, f5⟩ := files_all h
    obtain ⟨h1, h2, h3⟩ := mnN_ok h
    obtain ⟨b1, b2, _, _, b5, b6, _⟩ := szN_ok h1
    have hF0 : fnC a0 = 0 := by unfold fnC; rw [if_neg (by omega), if_neg (by omega)]
    obtain ⟨_, _, k1, k2, _⟩ := fnN_ok hF0
    rw [h] at HF HM
    rw [hF0] at HN
    obtain ⟨ls, hls⟩ : ∃ ls, ls = files a0 a1 c := ⟨_, rfl⟩
    obtain ⟨m, hm⟩ : ∃ m, m = mnN a0 a1 c := ⟨_, rfl⟩
    obtain ⟨k, hk⟩ : ∃ k, k = fnN a0 := ⟨_, rfl⟩
    rw [← hls] at HF f1 f2 f3 f5
    rw [← hm] at HM f2
    rw [← hk] at HN k1 k2 f5
    obtain ⟨N, hNe⟩ : ∃ N, ls.length = N := ⟨_, rfl⟩
    rw [hNe] at f1 f3 f5
    have HF' := Lib.hid HF
    have HM' := Lib.hid HM
    have HN' := Lib.hid HN
    have F2 := Lib.hid f2
    have F3 := Lib.hid f3
    have F5 := Lib.hid f5
    have HNe := Lib.hid hNe
    clear HF HM HN f2 f3 f4 f5 hNe hls hm hk h h1 h3 hF0 b1 b2 b5 b6
    go_enter Try.func5, Try.ntmps5
    go_wp2_with fail
    refine (HV.out _).mono ?_
    rintro e w1 ⟨rfl, hg1⟩
    simp only []
    go_wp2_with fail
    refine (HF'.out _).mono ?_
    rintro e w2 ⟨v, rfl, hv, hg2⟩
    simp only []
    obtain ⟨a, cap, rfl, hN4, hsh⟩ := hv.shape
    rw [HNe.out] at hN4 hsh ⊢
    have HG2 := Lib.hid (grown_trans hg1.out hg2.out)
    have Hsh := Lib.hid hsh
    obtain ⟨g, al0, cl0, rfl, c0, _, _⟩ := hsh 0 (by omega)
    obtain ⟨g', alL, clL, e9, cL, _, _⟩ := hsh (N - 1) (by omega)
    injection e9 with e9
    injection e9 with e9
    subst e9
    rw [F2.out] at c0
    rw [F3.out, List.length_singleton] at cL
    clear hv hg1 hg2 hsh
    go_wp2_with fail
    refine (HM'.out _).mono ?_
    rintro e w3 ⟨rfl, rfl⟩
    simp only []
    go_wp2_with fail
    refine (HN'.out _).mono ?_
    rintro e w3 ⟨rfl, rfl⟩
    simp only []
    have hN1 : (((N : Int) - 1)).toNat = N - 1 := by omega
    go_wp2_with fail
    clear c0 cL hN1
    go_loop [80] (fun iv => ∃ i : Nat, iv = .int .i64 (i : Nat) ∧ i ≤ N) (fun iv => N - (intOf iv).toNat)
    case atStart => exact ⟨0, rfl, Nat.zero_le _⟩
    case round =>
      obtain ⟨i, rfl, hi⟩ := hrel
      by_cases hlt : i < N
      · obtain ⟨g', al, cl, e9, ci, hl6, hel⟩ := Hsh.out i hlt
        injection e9 with e9
        injection e9 with e9
        subst e9
        obtain ⟨hs1, hs2⟩ := F5.out i hlt
        obtain ⟨l, hl⟩ : ∃ l, l = ls.getD i [] := ⟨_, rfl⟩
        rw [← hl] at ci hl6 hel hs1 hs2
        obtain ⟨n, hn⟩ : ∃ n, n = l.length := ⟨_, rfl⟩
        rw [← hn] at ci hl6 hel hs2
        have Hn := Lib.hid hn
        have Hel := Lib.hid hel
        have Hs1 := Lib.hid hs1
        have Hs2 := Lib.hid hs2
        have hii : (i : Int) < (N : Int) := by omega
        clear hn hel hs1 hs2 hl
        go_wp2_with fail
        clear ci
        go_loop [15, 87] (fun sv jv => ∃ j s : Nat, jv = .int .i64 (j : Nat) ∧ j ≤ n ∧ sv = .int .u64 (s : Nat) ∧ s ≤ c ∧ Hid (s = (l.take j).sum)) (fun _ jv => n - (intOf jv).toNat)
        case atStart => exact ⟨0, 0, rfl, Nat.zero_le _, rfl, Nat.zero_le _, by show _ = _; simp⟩
        case round =>
          obtain ⟨j, s, rfl, hj, rfl, hsc, hs⟩ := hrel
          by_cases hlt2 : j < n
          · obtain ⟨gl, rfl, cx⟩ := Hel.out j hlt2
            have hst := sum_take_succ (l := l) (j := j) (by rw [← Hn.out]; exact hlt2)
            have hsl := sum_take_le l (j + 1)
            rw [Hs1.out] at hsl
            rw [← hs.out] at hst
            obtain ⟨x, hx⟩ : ∃ x, x = l.getD j 0 := ⟨_, rfl⟩
            rw [← hx] at cx hst
            have hsx : s + x ≤ c := by omega
            have Hst : Hid (s + x = (l.take (j + 1)).sum) := hst.symm
            have hjj : (j : Int) < (n : Int) := by omega
            have hw : IntKind.u64.wrap ((s : Int) + (x : Int)) = ((s + x : Nat) : Int) := by rw [← Int.natCast_add]; exact wrap64u_in _ (by omega) (by omega)
            clear hst hsl hx
            go_wp2_with fail
            go_round
            case rel => exact ⟨j + 1, s + x, by go_num, by omega, by first | rfl | rw [Int.natCast_add], hsx, Hst⟩
            case measure => simp [intOf] <;> omega
          · obtain rfl : j = n := by omega
            have e8 : l.take j = l := by rw [Hn.out]; exact List.take_length
            have e7 := hs.out
            rw [e8, Hs1.out] at e7
            subst e7
            clear e8 hs hlt2
            rcases Nat.eq_zero_or_pos i with h0 | h0
            · subst h0
              go_wp2_with fail
              go_round
              case rel => exact ⟨1, rfl, by omega⟩
              case measure => simp [intOf] <;> omega
            · have hs2 := Hs2.out h0
              obtain ⟨g', alp, clp, e9, cp, hp6, _⟩ := Hsh.out (i - 1) (by omega)
              injection e9 with e9
              injection e9 with e9
              subst e9
              obtain ⟨q, hq⟩ : ∃ q, q = (ls.getD (i - 1) []).length := ⟨_, rfl⟩
              rw [← hq] at cp hp6 hs2
              obtain ⟨i2, rfl⟩ : ∃ i2, i = i2 + 1 := ⟨i - 1, by omega⟩
              rw [Nat.add_sub_cancel] at cp
              have hqi : ((q : Int) + (k : Int) - 1) / (k : Int) ≤ if (j : Int) < 1 then 1 else (j : Int) := by
                have e6 : ((q : Int) + (k : Int) - 1) / (k : Int) = ((q + k - 1 : Nat) / k : Nat) := by rw [Int.natCast_ediv]; congr 1; omega
                rw [e6]
                split <;> omega
              clear hq hs2
              go_wp2_with fail
              go_round
              case rel => exact ⟨i2 + 1 + 1, by go_num, by omega⟩
              case measure => simp [intOf] <;> omega
      · obtain rfl : i = N := by omega
        go_wp2_with fail
        go_ret
        exact ⟨rfl, bel_grown HG2.out (Nat.le_refl _)⟩
  · have e2 : files a0 a1 c = [] := by unfold files; rw [if_neg h]
    rw [e2] at HF
    obtain ⟨C, hC⟩ : ∃ C, C = mnC a0 a1 c := ⟨_, rfl⟩
    rw [← hC] at HF HM h
    have hb : (C == 0) = false := by simpa using h
    have hb2 : (C != 0) = true := by simpa using h
    have HF' := Lib.hid HF
    have HM' := Lib.hid HM
    have HN' := Lib.hid HN
    clear HF HM HN h hC e2
    go_enter Try.func5, Try.ntmps5
    go_wp2_with fail
    refine (HV.out _).mono ?_
    rintro e w1 ⟨rfl, hg1⟩
    simp only []
    go_wp2_with fail
    refine (HF'.out _).mono ?_
    rintro e w2 ⟨v, rfl, hv, hg2⟩
    simp only []
    obtain ⟨a, cap, rfl, _⟩ := hv.shape
    have HG2 := Lib.hid (grown_trans hg1.out hg2.out)
    clear hv hg1 hg2
    go_wp2_with fail
    refine (HM'.out _).mono ?_
    rintro e w3 ⟨rfl, rfl⟩
    simp only []
    go_wp2_with fail
    refine (HN'.out _).mono ?_
    rintro e w3 ⟨rfl, rfl⟩
    simp only []
    go_wp2_with fail
    go_ret
    exact ⟨rfl, bel_grown HG2.out (Nat.le_refl _)⟩
end Go.Proofs.Ytiocmggnmggapaa
