/- Samples, levels, logarithms (printed by gen_cost2.py). -/
import Derived.Test.YtiocmggnmggapaaCost1
namespace Go.Proofs.Ytiocmggnmggapaa
open Go.RowKit CostPlain
set_option linter.unusedVariables false

set_option maxRecDepth 100000 in
set_option maxHeartbeats 2000000 in
theorem extra_any (c : Nat) (hc : c ≤ 65536) (w : World) : Calls Try.prog 46 #[.int .u64 (c : Nat)] w fun e w' => e = .returned (.int .u64 ((if c % 3 = 1 then 1 else 0 : Nat) : Nat)) ∧ w' = w := by
  have hc8 : (c : Int) ≤ 65536 := by omega
  by_cases h : c % 3 = 1
  · rw [if_pos h]
    have hm : (c : Int) % 3 = 1 := by omega
    clear h
    go_enter Try.func46, Try.ntmps46
    go_wp2_with fail
    go_ret
    exact ⟨rfl, rfl⟩
  · rw [if_neg h]
    have hm : ((c : Int) % 3 == 1) = false := by simp; omega
    clear h
    go_enter Try.func46, Try.ntmps46
    go_wp2_with fail
    go_ret
    exact ⟨rfl, rfl⟩
set_option maxRecDepth 100000 in
set_option maxHeartbeats 2000000 in
theorem firsts_any (c : Nat) (hc : c ≤ 65536) (w : World) : Calls Try.prog 44 #[.int .u64 (c : Nat)] w fun e w' => e = .returned (.int .u64 ((c + 1) / 3 + (if c % 3 = 1 then 1 else 0) : Nat)) ∧ w' = w := by
  have hc8 : (c : Int) ≤ 65536 := by omega
  have HE := Lib.hid (extra_any c hc)
  obtain ⟨x, hx⟩ : ∃ x, x = (if c % 3 = 1 then 1 else 0) := ⟨_, rfl⟩
  have hx1 : x ≤ 1 := by rw [hx]; split <;> omega
  rw [← hx] at HE ⊢
  have e3 : (((c + 1) / 3 + x : Nat) : Int) = ((c : Int) + 1) / 3 + (x : Int) := by omega
  rw [e3]
  have hw1 : IntKind.u64.wrap ((c : Int) + 1) = (c : Int) + 1 := wrap64u_in _ (by omega) (by omega)
  have hw2 : IntKind.u64.wrap (((c : Int) + 1) / 3 + (x : Int)) = ((c : Int) + 1) / 3 + (x : Int) := wrap64u_in _ (by omega) (by omega)
  have hw3 : IntKind.u64.wrap (((c : Int) + 1) / 3) = ((c : Int) + 1) / 3 := wrap64u_in _ (by omega) (by omega)
  clear hx e3
  go_enter Try.func44, Try.ntmps44
  go_wp2_with (first | (go_at_call 46; refine (HE.out w).mono ?_; rintro e w1 ⟨rfl, hw1⟩; obtain rfl : w = w1 := hw1.symm) | fail)
  go_ret
  exact ⟨rfl, rfl⟩
set_option maxRecDepth 100000 in
set_option maxHeartbeats 2000000 in
theorem nneed_any (c : Nat) (hc : c < 18446744073709551616) (w : World) : Calls Try.prog 35 #[.int .u64 (c : Nat)] w fun e w' => e = .returned (.tuple #[.int .u64 (nmN c : Nat), .int .i64 (nmC c)]) ∧ w' = w := by
  by_cases h : 65536 < c
  · have e1 : nmC c = 1 := by unfold nmC; rw [if_pos h]
    have e2 : nmN c = 0 := by unfold nmN; rw [e1]; rfl
    rw [e1, e2]
    have h' : (65536 : Int) < (c : Int) := by omega
    clear e1 e2 h
    go_enter Try.func35, Try.ntmps35
    go_wp2_with fail
    go_ret2
    exact ⟨rfl, rfl⟩
  · have hc2 : c ≤ 65536 := by omega
    have hc8 : (c : Int) ≤ 65536 := by omega
    have e1 : nmC c = 0 := by unfold nmC; rw [if_neg h]
    have e2 : nmN c = (c + 1) / 3 + (if c % 3 = 1 then 1 else 0) + c / 3 := by unfold nmN; rw [e1]; rfl
    rw [e1, e2]
    have HF := Lib.hid (firsts_any c hc2)
    obtain ⟨x, hx⟩ : ∃ x, x = (c + 1) / 3 + (if c % 3 = 1 then 1 else 0) := ⟨_, rfl⟩
    have hx1 : x ≤ 30000 := by rw [hx]; split <;> omega
    rw [← hx] at HF ⊢
    have e3 : ((x + c / 3 : Nat) : Int) = (x : Int) + (c : Int) / 3 := by omega
    rw [e3]
    have hw1 : IntKind.u64.wrap ((c : Int) / 3) = (c : Int) / 3 := wrap64u_in _ (by omega) (by omega)
    have hw2 : IntKind.u64.wrap ((x : Int) + (c : Int) / 3) = (x : Int) + (c : Int) / 3 := wrap64u_in _ (by omega) (by omega)
    clear hx e3 e1 e2 h
    go_enter Try.func35, Try.ntmps35
    go_wp2_with (first | (go_at_call 44; refine (HF.out w).mono ?_; rintro e w1 ⟨rfl, hw1⟩; obtain rfl : w = w1 := hw1.symm) | fail)
    go_ret2
    exact ⟨rfl, rfl⟩
set_option maxRecDepth 100000 in
set_option maxHeartbeats 2000000 in
theorem log_any (k n : Nat) (hk : k < 18446744073709551616) (hn : n < 18446744073709551616) (w : World) : Calls Try.prog 19 #[.int .u64 (k : Nat), .int .u64 (n : Nat)] w fun e w' => e = .returned (.tuple #[.int .i64 (lgN k n : Nat), .int .i64 (lgC k n)]) ∧ w' = w := by
  by_cases h : k < 2 ∨ n = 0
  · have e1 : lgC k n = 1 := by unfold lgC; rw [if_pos h]
    have e2 : lgN k n = 0 := by unfold lgN; rw [e1]; rfl
    rw [e1, e2]
    clear e1 e2
    by_cases h1 : k < 2
    · have h1' : (k : Int) < 2 := by omega
      clear h h1
      go_enter Try.func19, Try.ntmps19
      go_wp2_with fail
      go_ret2
      exact ⟨rfl, rfl⟩
    · have h1' : ¬ (k : Int) < 2 := by omega
      obtain rfl : n = 0 := by omega
      clear h h1
      go_enter Try.func19, Try.ntmps19
      go_wp2_with fail
      go_ret2
      exact ⟨rfl, rfl⟩
  · have e1 : lgC k n = 0 := by unfold lgC; rw [if_neg h]
    have e2 : lgN k n = lg k n := by unfold lgN; rw [if_pos e1]
    rw [e1, e2]
    have hk2 : 2 ≤ k := by omega
    have hk2' : (2 : Int) ≤ (k : Int) := by omega
    have hn1 : 1 ≤ n := by omega
    have hn0 : ((n : Int) == 0) = false := by simp; omega
    have hT := lg_lt64 k n hn
    obtain ⟨T, hTe⟩ : ∃ T, T = lg k n := ⟨_, rfl⟩
    rw [← hTe] at hT ⊢
    have HT : Hid (0 + lg k n = T) := by show _ = _; rw [hTe]; omega
    clear hTe e1 e2 h
    go_enter Try.func19, Try.ntmps19
    go_wp2_with fail
    go_loopw [1, 6] (fun nv tv wr => ∃ (m t : Nat), nv = .int .u64 (m : Nat) ∧ tv = .int .i64 (t : Nat) ∧ 1 ≤ m ∧ m ≤ n ∧ t ≤ 64 ∧ Hid (t + lg k m = T) ∧ wr = w) (fun nv _ _ => (intOf nv).toNat)
    case atStart => exact ⟨n, 0, rfl, rfl, hn1, Nat.le_refl _, by omega, HT, rfl⟩
    case round =>
      obtain ⟨m, t, rfl, rfl, hm1, hm, ht, hl, hwr⟩ := hrel
      obtain rfl : w = wr := hwr.symm
      by_cases hlt : 1 < m
      · have hd : (m - 1) / k < m - 1 := Nat.div_lt_self (by omega) (by omega)
        have Hl2 : Hid (t + 1 + lg k ((m - 1) / k + 1) = T) := by show _ = _; have := hl.out; rw [lg_step hlt hk2] at this; omega
        have ht2 : t + 1 ≤ 64 := by have := Hl2.out; omega
        obtain ⟨q, hq⟩ : ∃ q, q = (m - 1) / k := ⟨_, rfl⟩
        rw [← hq] at hd Hl2
        have hqi : ((m : Int) - 1) / (k : Int) = (q : Int) := by rw [hq, Int.natCast_ediv]; congr 1; omega
        have hw1 : IntKind.u64.wrap ((m : Int) - 1) = (m : Int) - 1 := wrap64u_in _ (by omega) (by omega)
        have hw2 : IntKind.u64.wrap (((m : Int) - 1) / (k : Int)) = (q : Int) := by rw [hqi]; exact wrap64u_in _ (by omega) (by omega)
        have hw3 : IntKind.u64.wrap ((q : Int) + 1) = ((q + 1 : Nat) : Int) := by rw [wrap64u_in _ (by omega) (by omega)]; rfl
        have hmi : (1 : Int) < (m : Int) := by omega
        clear hq hl
        go_wp2_with fail
        exact ⟨⟨q + 1, t + 1, by first | rfl | (rw [Int.natCast_add]; rfl), by rw [Int.natCast_add]; rfl, by omega, by omega, ht2, Hl2, trivial⟩, by simp [intOf]; omega⟩
      · obtain rfl : m = 1 := by omega
        have hTt : t = T := by have := hl.out; rw [lg_one k 1 (by omega)] at this; omega
        subst hTt
        clear hlt HT hl
        go_wp2_with fail
        go_ret2
        exact ⟨rfl, rfl⟩
set_option maxRecDepth 100000 in
set_option maxHeartbeats 2000000 in
theorem rlog_any (k n : Nat) (hk : k < 18446744073709551616) (hn : n < 18446744073709551616) (w : World) : Calls Try.prog 20 #[.int .u64 (k : Nat), .int .u64 (n : Nat)] w fun e w' => e = .returned (.tuple #[.int .i64 (lgN k n : Nat), .int .i64 (lgC k n)]) ∧ w' = w := by
  by_cases h : k < 2 ∨ n = 0
  · have e1 : lgC k n = 1 := by unfold lgC; rw [if_pos h]
    have e2 : lgN k n = 0 := by unfold lgN; rw [e1]; rfl
    rw [e1, e2]
    clear e1 e2
    by_cases h1 : k < 2
    · have h1' : (k : Int) < 2 := by omega
      clear h h1
      go_enter Try.func20, Try.ntmps20
      go_wp2_with fail
      go_ret2
      exact ⟨rfl, rfl⟩
    · have h1' : ¬ (k : Int) < 2 := by omega
      obtain rfl : n = 0 := by omega
      clear h h1
      go_enter Try.func20, Try.ntmps20
      go_wp2_with fail
      go_ret2
      exact ⟨rfl, rfl⟩
  · have e1 : lgC k n = 0 := by unfold lgC; rw [if_neg h]
    have e2 : lgN k n = lg k n := by unfold lgN; rw [if_pos e1]
    rw [e1, e2]
    have hk2 : 2 ≤ k := by omega
    have hk2' : (2 : Int) ≤ (k : Int) := by omega
    have hn1 : 1 ≤ n := by omega
    have hn0 : ((n : Int) == 0) = false := by simp; omega
    have hT := lg_lt64 k n hn
    obtain ⟨T, hTe⟩ : ∃ T, T = lg k n := ⟨_, rfl⟩
    rw [← hTe] at hT ⊢
    have HT : Hid (0 + lg k n = T) := by show _ = _; rw [hTe]; omega
    clear hTe e1 e2 h
    go_enter Try.func20, Try.ntmps20
    go_wp2_with fail
    go_loopw [1, 6] (fun nv tv wr => ∃ (m t : Nat), nv = .int .u64 (m : Nat) ∧ tv = .int .i64 (t : Nat) ∧ 1 ≤ m ∧ m ≤ n ∧ t ≤ 64 ∧ Hid (t + lg k m = T) ∧ wr = w) (fun nv _ _ => (intOf nv).toNat)
    case atStart => exact ⟨n, 0, rfl, rfl, hn1, Nat.le_refl _, by omega, HT, rfl⟩
    case round =>
      obtain ⟨m, t, rfl, rfl, hm1, hm, ht, hl, hwr⟩ := hrel
      obtain rfl : w = wr := hwr.symm
      by_cases hlt : 1 < m
      · have hd : (m - 1) / k < m - 1 := Nat.div_lt_self (by omega) (by omega)
        have Hl2 : Hid (t + 1 + lg k ((m - 1) / k + 1) = T) := by show _ = _; have := hl.out; rw [lg_step hlt hk2] at this; omega
        have ht2 : t + 1 ≤ 64 := by have := Hl2.out; omega
        obtain ⟨q, hq⟩ : ∃ q, q = (m - 1) / k := ⟨_, rfl⟩
        rw [← hq] at hd Hl2
        have hqi : ((m : Int) - 1) / (k : Int) = (q : Int) := by rw [hq, Int.natCast_ediv]; congr 1; omega
        have hw1 : IntKind.u64.wrap ((m : Int) - 1) = (m : Int) - 1 := wrap64u_in _ (by omega) (by omega)
        have hw2 : IntKind.u64.wrap (((m : Int) - 1) / (k : Int)) = (q : Int) := by rw [hqi]; exact wrap64u_in _ (by omega) (by omega)
        have hw3 : IntKind.u64.wrap ((q : Int) + 1) = ((q + 1 : Nat) : Int) := by rw [wrap64u_in _ (by omega) (by omega)]; rfl
        have hmi : (1 : Int) < (m : Int) := by omega
        clear hq hl
        go_wp2_with fail
        exact ⟨⟨q + 1, t + 1, by first | rfl | (rw [Int.natCast_add]; rfl), by rw [Int.natCast_add]; rfl, by omega, by omega, ht2, Hl2, trivial⟩, by simp [intOf]; omega⟩
      · obtain rfl : m = 1 := by omega
        have hTt : t = T := by have := hl.out; rw [lg_one k 1 (by omega)] at this; omega
        subst hTt
        clear hlt HT hl
        go_wp2_with fail
        go_ret2
        exact ⟨rfl, rfl⟩
end Go.Proofs.Ytiocmggnmggapaa
