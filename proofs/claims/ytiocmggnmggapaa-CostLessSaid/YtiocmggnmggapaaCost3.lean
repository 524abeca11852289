/- Samples by the document, levels, passes (printed by gen_cost3.py). -/
import Derived.Test.YtiocmggnmggapaaCost2
namespace Go.Proofs.Ytiocmggnmggapaa
open Go.RowKit CostPlain
set_option linter.unusedVariables false

def lvN (b : Int) (c : Nat) : Nat := if lvC b c = 0 then lvn (bs b) c else 0
set_option maxRecDepth 100000 in
set_option maxHeartbeats 4000000 in
theorem rnneed_any (c : Nat) (hc : c < 18446744073709551616) (w : World) : Calls Try.prog 37 #[.int .u64 (c : Nat)] w fun e w' => e = .returned (.tuple #[.int .u64 (nmN c : Nat), .int .i64 (nmC c)]) ∧ w' = w := by
  by_cases h : 65536 < c
  · have e1 : nmC c = 1 := by unfold nmC; rw [if_pos h]
    have e2 : nmN c = 0 := by unfold nmN; rw [e1]; rfl
    rw [e1, e2]
    have h' : (65536 : Int) < (c : Int) := by omega
    clear e1 e2 h
    go_enter Try.func37, Try.ntmps37
    go_wp2_with fail
    go_ret2
    exact ⟨rfl, rfl⟩
  · have hc2 : c ≤ 65536 := by omega
    have hc8 : (c : Int) ≤ 65536 := by omega
    have e1 : nmC c = 0 := by unfold nmC; rw [if_neg h]
    have e2 : nmN c = (c + 1) / 3 + (if c % 3 = 1 then 1 else 0) + c / 3 := by unfold nmN; rw [e1]; rfl
    rw [e1]
    obtain ⟨T, hT⟩ : ∃ T, T = nmN c := ⟨_, rfl⟩
    rw [← hT] at e2 ⊢
    have HT := Lib.hid e2
    clear hT e1 e2 h
    go_enter Try.func37, Try.ntmps37
    go_wp2_with fail
    go_loopw [4, 5] (fun nv iv wr => ∃ (n i : Nat), nv = .int .u64 (n : Nat) ∧ iv = .int .u64 (i : Nat) ∧ i ≤ c + 1 ∧ (i = c + 1 → c % 3 = 1) ∧ Hid (n = i - (i + 2) / 3) ∧ wr = w) (fun _ iv _ => c + 1 - (intOf iv).toNat)
    case atStart => exact ⟨0, 0, rfl, rfl, by omega, by omega, rfl, rfl⟩
    case round =>
      obtain ⟨n, i, rfl, rfl, hi, hi1, hn, hwr⟩ := hrel
      obtain rfl : w = wr := hwr.symm
      have hnb : n ≤ 65537 := by have := hn.out; omega
      have hw2 : IntKind.u64.wrap ((i : Int) + 1) = ((i + 1 : Nat) : Int) := by rw [wrap64u_in _ (by omega) (by omega)]; rfl
      by_cases hgo : i < c ∨ i = c ∧ c % 3 = 1
      · have hmi : i + 1 = c + 1 → c % 3 = 1 := by omega
        have hi' : i + 1 ≤ c + 1 := by omega
        by_cases hz : i % 3 = 0
        · have Hn2 : Hid (n = i + 1 - (i + 1 + 2) / 3) := by show _ = _; have := hn.out; omega
          have hzi : (i : Int) % 3 = 0 := by omega
          have hlt : i < c := by omega
          have hlti : (i : Int) < (c : Int) := by omega
          clear hz hgo hi1 hn
          go_wp2_with fail
          exact ⟨⟨n, i + 1, rfl, by first | rfl | (rw [Int.natCast_add]; rfl), hi', hmi, Hn2, trivial⟩, by simp [intOf] <;> omega⟩
        · have Hn2 : Hid (n + 1 = i + 1 - (i + 1 + 2) / 3) := by show _ = _; have := hn.out; omega
          have hzi : ((i : Int) % 3 == 0) = false := by simp; omega
          have hw1 : IntKind.u64.wrap ((n : Int) + 1) = ((n + 1 : Nat) : Int) := by rw [wrap64u_in _ (by omega) (by omega)]; rfl
          by_cases hlt : i < c
          · have hlti : (i : Int) < (c : Int) := by omega
            clear hz hgo hi1 hn
            go_wp2_with fail
            exact ⟨⟨n + 1, i + 1, by first | rfl | (rw [Int.natCast_add]; rfl), by first | rfl | (rw [Int.natCast_add]; rfl), hi', hmi, Hn2, trivial⟩, by simp [intOf] <;> omega⟩
          · obtain rfl : i = c := by omega
            have hci : (i : Int) % 3 = 1 := by omega
            clear hz hgo hi1 hn hlt
            go_wp2_with fail
            exact ⟨⟨n + 1, i + 1, by first | rfl | (rw [Int.natCast_add]; rfl), by first | rfl | (rw [Int.natCast_add]; rfl), hi', hmi, Hn2, trivial⟩, by simp [intOf] <;> omega⟩
      · have hTn : n = T := by
          rw [hn.out, HT.out]
          by_cases h3 : c % 3 = 1
          · rw [if_pos h3]; omega
          · rw [if_neg h3]; omega
        subst hTn
        have hlti : (c : Int) ≤ (i : Int) := by omega
        by_cases hic : i = c
        · subst hic
          have hci : ((i : Int) % 3 == 1) = false := by simp; omega
          clear hgo hi1 hn HT
          go_wp2_with fail
          go_ret2
          exact ⟨rfl, rfl⟩
        · have hci : ((i : Int) == (c : Int)) = false := by simp; omega
          clear hgo hi1 hn HT
          go_wp2_with fail
          go_ret2
          exact ⟨rfl, rfl⟩
set_option maxRecDepth 100000 in
set_option maxHeartbeats 4000000 in
theorem bs_ok {b : Int} (h1 : 24 ≤ b) (h2 : b ≤ 256) : 25 ≤ bs b ∧ bs b ≤ 396 ∧ 64 * (b - 8) / 40 = (bs b : Int) := by
  unfold bs
  omega
theorem base_any (b : Int) (h1 : 24 ≤ b) (h2 : b ≤ 256) (w : World) : Calls Try.prog 39 #[.int .i64 b] w fun e w' => e = .returned (.int .u64 (bs b : Nat)) ∧ w' = w := by
  obtain ⟨g1, g2, g3⟩ := bs_ok h1 h2
  rw [← g3]
  have hw : IntKind.u64.wrap (64 * (b - 8) / 40) = 64 * (b - 8) / 40 := wrap64u_in _ (by omega) (by omega)
  clear g1 g2 g3
  go_enter Try.func39, Try.ntmps39
  go_wp2_with fail
  go_ret
  exact ⟨rfl, rfl⟩
theorem lvn_step {B c : Nat} (h : B < c) (hB : 25 ≤ B) : lvn B c = lvn B (nm c) + 1 := by rw [lvn, dif_pos ⟨h, by omega⟩]
theorem lvn_stop {B c : Nat} (h : c ≤ B) : lvn B c = 0 := by rw [lvn, dif_neg (by omega)]
theorem lvn_le (B c : Nat) : lvn B c ≤ c := by
  induction c using Nat.strongRecOn with
  | _ c ih =>
    rw [lvn]
    split
    · rename_i h
      have h1 := nm_lt h.2
      have := ih _ h1
      omega
    · omega
set_option maxRecDepth 100000 in
set_option maxHeartbeats 4000000 in
theorem levels_any (b : Int) (c : Nat) (hc : c < 18446744073709551616) (w : World) : Calls Try.prog 24 #[.int .i64 b, .int .u64 (c : Nat)] w fun e w' => e = .returned (.tuple #[.int .i64 (lvN b c : Nat), .int .i64 (lvC b c)]) ∧ w' = w := by
  rcases Int.lt_or_le b 24 with h1 | h1
  · have e1 : lvC b c = 9 := by unfold lvC; rw [if_pos h1]
    have e2 : lvN b c = 0 := by unfold lvN; rw [e1]; rfl
    rw [e1, e2]
    clear e1 e2
    go_enter Try.func24, Try.ntmps24
    go_wp2_with fail
    go_ret2
    exact ⟨rfl, rfl⟩
  by_cases h0 : 256 < b ∨ 65536 < c
  · have e1 : lvC b c = 1 := by unfold lvC; rw [if_neg (by omega), if_pos h0]
    have e2 : lvN b c = 0 := by unfold lvN; rw [e1]; rfl
    rw [e1, e2]
    clear e1 e2
    rcases Int.lt_or_le 256 b with h2 | h2
    · clear h0
      go_enter Try.func24, Try.ntmps24
      go_wp2_with fail
      go_ret2
      exact ⟨rfl, rfl⟩
    · have h3 : (65536 : Int) < (c : Int) := by omega
      clear h0
      go_enter Try.func24, Try.ntmps24
      go_wp2_with fail
      go_ret2
      exact ⟨rfl, rfl⟩
  · have e1 : lvC b c = 0 := by unfold lvC; rw [if_neg (by omega), if_neg h0]
    have e2 : lvN b c = lvn (bs b) c := by unfold lvN; rw [if_pos e1]
    rw [e1, e2]
    have h2 : b ≤ 256 := by omega
    have hc2 : c ≤ 65536 := by omega
    have hc8 : (c : Int) ≤ 65536 := by omega
    obtain ⟨g1, g2, g3⟩ := bs_ok h1 h2
    have HB := Lib.hid (fun w => base_any b h1 h2 w)
    have hT := lvn_le (bs b) c
    obtain ⟨B, hB⟩ : ∃ B, B = bs b := ⟨_, rfl⟩
    rw [← hB] at g1 g2 g3 HB hT ⊢
    obtain ⟨T, hTe⟩ : ∃ T, T = lvn B c := ⟨_, rfl⟩
    rw [← hTe] at hT ⊢
    have HT : Hid (0 + lvn B c = T) := by show _ = _; rw [hTe]; omega
    have hwb : IntKind.u64.wrap (64 * (b - 8) / 40) = (B : Int) := by rw [g3]; exact wrap64u_in _ (by omega) (by omega)
    have hwb2 : IntKind.u64.wrap (B : Int) = (B : Int) := wrap64u_in _ (by omega) (by omega)
    clear hTe e1 e2 h0 hB
    go_enter Try.func24, Try.ntmps24
    go_wp2_with fail
    go_loopw [1, 6] (fun nv tv wr => ∃ (m t : Nat), nv = .int .u64 (m : Nat) ∧ tv = .int .i64 (t : Nat) ∧ m ≤ c ∧ t ≤ 65536 ∧ Hid (t + lvn B m = T) ∧ wr = w) (fun nv _ _ => (intOf nv).toNat)
    case atStart => exact ⟨c, 0, rfl, rfl, Nat.le_refl _, by omega, HT, rfl⟩
    case round =>
      obtain ⟨m, t, rfl, rfl, hm, ht, hl, hwr⟩ := hrel
      obtain rfl : w = wr := hwr.symm
      by_cases hlt : B < m
      · have hd := nm_lt (c := m) (by omega)
        have Hl2 : Hid (t + 1 + lvn B (nm m) = T) := by show _ = _; have := hl.out; rw [lvn_step hlt g1] at this; omega
        have ht2 : t + 1 ≤ 65536 := by have := Hl2.out; omega
        have HN := Lib.hid (fun w => nneed_any m (by omega) w)
        have e1 : nmC m = 0 := by unfold nmC; rw [if_neg (by omega)]
        have e2 : nmN m = nm m := by unfold nmN; rw [if_pos e1]
        rw [e1, e2] at HN
        obtain ⟨q, hq⟩ : ∃ q, q = nm m := ⟨_, rfl⟩
        rw [← hq] at hd Hl2 HN
        have hmi : (B : Int) < (m : Int) := by omega
        clear hq hl e1 e2
        go_wp2_with (first | (go_at_call 39; refine (HB.out w).mono ?_; rintro e w1 ⟨rfl, hw1⟩; obtain rfl : w = w1 := hw1.symm) | (go_at_call 35; refine (HN.out w).mono ?_; rintro e w1 ⟨rfl, hw1⟩; obtain rfl : w = w1 := hw1.symm) | fail)
        exact ⟨⟨q, t + 1, rfl, by first | rfl | (rw [Int.natCast_add]; rfl), by omega, ht2, Hl2, trivial⟩, by simp [intOf] <;> omega⟩
      · have hTt : t = T := by have := hl.out; rw [lvn_stop (by omega)] at this; omega
        subst hTt
        have hmi : (m : Int) ≤ (B : Int) := by omega
        clear hlt HT hl
        go_wp2_with (first | (go_at_call 39; refine (HB.out w).mono ?_; rintro e w1 ⟨rfl, hw1⟩; obtain rfl : w = w1 := hw1.symm) | fail)
        go_ret2
        exact ⟨rfl, rfl⟩
set_option maxRecDepth 100000 in
set_option maxHeartbeats 4000000 in
theorem rlevels_any (b : Int) (c : Nat) (hc : c < 18446744073709551616) (w : World) : Calls Try.prog 36 #[.int .i64 b, .int .u64 (c : Nat)] w fun e w' => e = .returned (.tuple #[.int .i64 (lvN b c : Nat), .int .i64 (lvC b c)]) ∧ w' = w := by
  rcases Int.lt_or_le b 24 with h1 | h1
  · have e1 : lvC b c = 9 := by unfold lvC; rw [if_pos h1]
    have e2 : lvN b c = 0 := by unfold lvN; rw [e1]; rfl
    rw [e1, e2]
    clear e1 e2
    go_enter Try.func36, Try.ntmps36
    go_wp2_with fail
    go_ret2
    exact ⟨rfl, rfl⟩
  by_cases h0 : 256 < b ∨ 65536 < c
  · have e1 : lvC b c = 1 := by unfold lvC; rw [if_neg (by omega), if_pos h0]
    have e2 : lvN b c = 0 := by unfold lvN; rw [e1]; rfl
    rw [e1, e2]
    clear e1 e2
    rcases Int.lt_or_le 256 b with h2 | h2
    · clear h0
      go_enter Try.func36, Try.ntmps36
      go_wp2_with fail
      go_ret2
      exact ⟨rfl, rfl⟩
    · have h3 : (65536 : Int) < (c : Int) := by omega
      clear h0
      go_enter Try.func36, Try.ntmps36
      go_wp2_with fail
      go_ret2
      exact ⟨rfl, rfl⟩
  · have e1 : lvC b c = 0 := by unfold lvC; rw [if_neg (by omega), if_neg h0]
    have e2 : lvN b c = lvn (bs b) c := by unfold lvN; rw [if_pos e1]
    rw [e1, e2]
    have h2 : b ≤ 256 := by omega
    have hc2 : c ≤ 65536 := by omega
    have hc8 : (c : Int) ≤ 65536 := by omega
    obtain ⟨g1, g2, g3⟩ := bs_ok h1 h2
    have HB := Lib.hid (fun w => base_any b h1 h2 w)
    have hT := lvn_le (bs b) c
    obtain ⟨B, hB⟩ : ∃ B, B = bs b := ⟨_, rfl⟩
    rw [← hB] at g1 g2 g3 HB hT ⊢
    obtain ⟨T, hTe⟩ : ∃ T, T = lvn B c := ⟨_, rfl⟩
    rw [← hTe] at hT ⊢
    have HT : Hid (0 + lvn B c = T) := by show _ = _; rw [hTe]; omega
    have hwb : IntKind.u64.wrap (64 * (b - 8) / 40) = (B : Int) := by rw [g3]; exact wrap64u_in _ (by omega) (by omega)
    have hwb2 : IntKind.u64.wrap (B : Int) = (B : Int) := wrap64u_in _ (by omega) (by omega)
    clear hTe e1 e2 h0 hB
    go_enter Try.func36, Try.ntmps36
    go_wp2_with fail
    go_loopw [1, 6] (fun nv tv wr => ∃ (m t : Nat), nv = .int .u64 (m : Nat) ∧ tv = .int .i64 (t : Nat) ∧ m ≤ c ∧ t ≤ 65536 ∧ Hid (t + lvn B m = T) ∧ wr = w) (fun nv _ _ => (intOf nv).toNat)
    case atStart => exact ⟨c, 0, rfl, rfl, Nat.le_refl _, by omega, HT, rfl⟩
    case round =>
      obtain ⟨m, t, rfl, rfl, hm, ht, hl, hwr⟩ := hrel
      obtain rfl : w = wr := hwr.symm
      by_cases hlt : B < m
      · have hd := nm_lt (c := m) (by omega)
        have Hl2 : Hid (t + 1 + lvn B (nm m) = T) := by show _ = _; have := hl.out; rw [lvn_step hlt g1] at this; omega
        have ht2 : t + 1 ≤ 65536 := by have := Hl2.out; omega
        have HN := Lib.hid (fun w => rnneed_any m (by omega) w)
        have e1 : nmC m = 0 := by unfold nmC; rw [if_neg (by omega)]
        have e2 : nmN m = nm m := by unfold nmN; rw [if_pos e1]
        rw [e1, e2] at HN
        obtain ⟨q, hq⟩ : ∃ q, q = nm m := ⟨_, rfl⟩
        rw [← hq] at hd Hl2 HN
        have hmi : (B : Int) < (m : Int) := by omega
        clear hq hl e1 e2
        go_wp2_with (first | (go_at_call 37; refine (HN.out w).mono ?_; rintro e w1 ⟨rfl, hw1⟩; obtain rfl : w = w1 := hw1.symm) | fail)
        exact ⟨⟨q, t + 1, rfl, by first | rfl | (rw [Int.natCast_add]; rfl), by omega, ht2, Hl2, trivial⟩, by simp [intOf] <;> omega⟩
      · have hTt : t = T := by have := hl.out; rw [lvn_stop (by omega)] at this; omega
        subst hTt
        have hmi : (m : Int) ≤ (B : Int) := by omega
        clear hlt HT hl
        go_wp2_with (first | fail)
        go_ret2
        exact ⟨rfl, rfl⟩
set_option maxRecDepth 100000 in
set_option maxHeartbeats 4000000 in
theorem passes_any (b f : Int) (w : World) : Calls Try.prog 26 #[.int .i64 b, .int .i64 f] w fun e w' => e = .returned (.tuple #[.int .i64 (psN b f : Nat), .int .i64 (psC b f)]) ∧ w' = w := by
  have HF := fun w => fan_any b w
  by_cases h1 : fnC b = 0
  · obtain ⟨_, _, g1, g2, _⟩ := fnN_ok h1
    rw [h1] at HF
    by_cases h2 : f < 0 ∨ 65536 < f
    · have e1 : psC b f = 1 := by unfold psC; rw [if_neg (by simp [h1]), if_pos h2]
      have e2 : psN b f = 0 := by unfold psN; rw [e1]; rfl
      rw [e1, e2]
      have HF' := Lib.hid HF
      clear e1 e2 HF h1
      rcases Int.lt_or_le f 0 with h3 | h3
      · clear h2
        go_enter Try.func26, Try.ntmps26
        go_wp2_with (first | (go_at_call 23; refine (HF'.out w).mono ?_; rintro e w1 ⟨rfl, hw1⟩; obtain rfl : w = w1 := hw1.symm) | fail)
        go_ret2
        exact ⟨rfl, rfl⟩
      · have h4 : 65536 < f := by omega
        clear h2
        go_enter Try.func26, Try.ntmps26
        go_wp2_with (first | (go_at_call 23; refine (HF'.out w).mono ?_; rintro e w1 ⟨rfl, hw1⟩; obtain rfl : w = w1 := hw1.symm) | fail)
        go_ret2
        exact ⟨rfl, rfl⟩
    · have e1 : psC b f = 0 := by unfold psC; rw [if_neg (by simp [h1]), if_neg h2]
      have e2 : psN b f = lg (fnN b) f.toNat := by unfold psN; rw [if_pos e1]
      rw [e1, e2]
      obtain ⟨n, rfl⟩ : ∃ n : Nat, f = (n : Int) := ⟨f.toNat, by omega⟩
      have hn : n ≤ 65536 := by omega
      have hn8 : (n : Int) ≤ 65536 := by omega
      simp only [Int.toNat_natCast]
      obtain ⟨k, hk⟩ : ∃ k, k = fnN b := ⟨_, rfl⟩
      rw [← hk] at g1 g2 HF ⊢
      have hT := lg_le k n
      obtain ⟨T, hTe⟩ : ∃ T, T = lg k n := ⟨_, rfl⟩
      rw [← hTe] at hT ⊢
      have HT : Hid (0 + lg k n = T) := by show _ = _; rw [hTe]; omega
      have HF' := Lib.hid HF
      have g1' : (18 : Int) ≤ (k : Int) := by omega
      have g2' : (k : Int) ≤ 250 := by omega
      clear hTe hk e1 e2 h2 HF h1
      go_enter Try.func26, Try.ntmps26
      go_wp2_with (first | (go_at_call 23; refine (HF'.out w).mono ?_; rintro e w1 ⟨rfl, hw1⟩; obtain rfl : w = w1 := hw1.symm) | fail)
      go_loopw [1, 8] (fun nv tv wr => ∃ (m t : Nat), nv = .int .i64 (m : Nat) ∧ tv = .int .i64 (t : Nat) ∧ m ≤ n ∧ t ≤ 65536 ∧ Hid (t + lg k m = T) ∧ wr = w) (fun nv _ _ => (intOf nv).toNat)
      case atStart => exact ⟨n, 0, rfl, rfl, Nat.le_refl _, by omega, HT, rfl⟩
      case round =>
        obtain ⟨m, t, rfl, rfl, hm, ht, hl, hwr⟩ := hrel
        obtain rfl : w = wr := hwr.symm
        by_cases hlt : 1 < m
        · have hd : (m - 1) / k < m - 1 := Nat.div_lt_self (by omega) (by omega)
          have Hl2 : Hid (t + 1 + lg k ((m - 1) / k + 1) = T) := by show _ = _; have := hl.out; rw [lg_step hlt (by omega)] at this; omega
          have ht2 : t + 1 ≤ 65536 := by have := Hl2.out; omega
          obtain ⟨q, hq⟩ : ∃ q, q = (m - 1) / k + 1 := ⟨_, rfl⟩
          have hqm : q < m := by omega
          rw [← hq] at Hl2
          have hqi : ((m : Int) + (k : Int) - 1) / (k : Int) = (q : Int) := by
            have e : (m + k - 1) / k = q := by rw [hq, show m + k - 1 = (m - 1) + k by omega, Nat.add_div_right _ (by omega)]
            rw [← e, Int.natCast_ediv]; congr 1; omega
          have hmi : (1 : Int) < (m : Int) := by omega
          clear hq hl hd
          go_wp2_with fail
          exact ⟨⟨q, t + 1, by rw [hqi], by rw [Int.natCast_add]; rfl, by omega, ht2, Hl2, trivial⟩, by simp [intOf] <;> omega⟩
        · have hTt : t = T := by have := hl.out; rw [lg_one k m (by omega)] at this; omega
          subst hTt
          have hmi : (m : Int) ≤ 1 := by omega
          clear hlt HT hl
          go_wp2_with fail
          go_ret2
          exact ⟨rfl, rfl⟩
  · have e1 : psC b f = fnC b := by unfold psC; rw [if_pos h1]
    have e2 : psN b f = 0 := by unfold psN; rw [e1, if_neg h1]
    rw [e1, e2]
    have HF' := Lib.hid HF
    have hb : (fnC b == 0) = false := by simpa using h1
    clear e1 e2 HF h1
    go_enter Try.func26, Try.ntmps26
    go_wp2_with (first | (go_at_call 23; refine (HF'.out w).mono ?_; rintro e w1 ⟨rfl, hw1⟩; obtain rfl : w = w1 := hw1.symm) | fail)
    go_ret2
    exact ⟨rfl, rfl⟩
end Go.Proofs.Ytiocmggnmggapaa
