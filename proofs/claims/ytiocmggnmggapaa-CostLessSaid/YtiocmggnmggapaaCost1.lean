/- The small functions of cost's callees (printed by gen_cost1.py). -/
import Derived.Test.YtiocmggnmggapaaNums
import Derived.Test.YtiocmggnmggapaaCostPlain
namespace Go.Proofs.Ytiocmggnmggapaa
open Go.RowKit CostPlain
set_option linter.unusedVariables false

theorem szN_ok {b wd : Int} (h : szC b wd = 0) : 24 ≤ b ∧ b ≤ 256 ∧ 1 ≤ wd ∧ wd ≤ 8 ∧ 25 ≤ szN b wd ∧ szN b wd ≤ 3174 ∧ 64 * (b - 8) / (5 * wd) = (szN b wd : Int) := by
  have h1 : ¬ b < 24 := fun e => by unfold szC at h; rw [if_pos e] at h; exact absurd h (by decide)
  have h2 : ¬ (256 < b ∨ wd < 1 ∨ 8 < wd) := fun e => by unfold szC at h; rw [if_neg h1, if_pos e] at h; exact absurd h (by decide)
  obtain ⟨B, rfl⟩ : ∃ B : Nat, b = (B : Int) := ⟨b.toNat, by omega⟩
  obtain ⟨D, rfl⟩ : ∃ D : Nat, wd = (D : Int) := ⟨wd.toNat, by omega⟩
  have e : szN (B : Int) (D : Int) = 64 * (B - 8) / (5 * D) := by unfold szN; rw [if_pos h]; simp
  have h3 : 25 ≤ 64 * (B - 8) / (5 * D) := by rw [Nat.le_div_iff_mul_le (by omega)]; omega
  have h4 : 64 * (B - 8) / (5 * D) ≤ 64 * (B - 8) / 5 := Nat.div_le_div_left (by omega) (by omega)
  refine ⟨by omega, by omega, by omega, by omega, by omega, by omega, ?_⟩
  rw [e, show (64 * ((B : Int) - 8)) = ((64 * (B - 8) : Nat) : Int) by omega, show (5 * (D : Int)) = ((5 * D : Nat) : Int) by omega]
  exact (Int.natCast_ediv _ _).symm
theorem fnN_ok {b : Int} (h : fnC b = 0) : 24 ≤ b ∧ b ≤ 256 ∧ 18 ≤ fnN b ∧ fnN b ≤ 250 ∧ b - 6 = (fnN b : Int) := by
  have h1 : ¬ b < 24 := fun e => by unfold fnC at h; rw [if_pos e] at h; exact absurd h (by decide)
  have h2 : ¬ 256 < b := fun e => by unfold fnC at h; rw [if_neg h1, if_pos e] at h; exact absurd h (by decide)
  have e : fnN b = b.toNat - 6 := by unfold fnN; rw [if_pos h]
  omega
theorem mnN_ok {b wd : Int} {c : Nat} (h : mnC b wd c = 0) : szC b wd = 0 ∧ c ≤ 65536 ∧ mnN b wd c = (c + szN b wd - 1) / szN b wd := by
  have h1 : szC b wd = 0 := by
    rcases Classical.em (szC b wd = 0) with h1 | h1
    · exact h1
    · unfold mnC at h; rw [if_pos h1] at h; exact absurd h h1
  refine ⟨h1, ?_, by unfold mnN; rw [if_pos h]⟩
  rcases Nat.lt_or_ge 65536 c with h2 | h2
  · unfold mnC at h; rw [if_neg (by simp [h1]), if_pos h2] at h; exact absurd h (by decide)
  · exact h2
set_option maxRecDepth 100000 in
set_option maxHeartbeats 2000000 in
theorem size_any (b wd : Int) (w : World) : Calls Try.prog 27 #[.int .i64 b, .int .i64 wd] w fun e w' => e = .returned (.tuple #[.int .i64 (szN b wd : Nat), .int .i64 (szC b wd)]) ∧ w' = w := by
  by_cases h1 : b < 24
  · have e1 : szC b wd = 9 := by unfold szC; rw [if_pos h1]
    have e2 : szN b wd = 0 := by unfold szN; rw [e1]; rfl
    rw [e1, e2]
    clear e1 e2
    go_enter Try.func27, Try.ntmps27
    go_wp2_with fail
    go_ret2
    exact ⟨rfl, rfl⟩
  · by_cases h2 : 256 < b ∨ wd < 1 ∨ 8 < wd
    · have e1 : szC b wd = 1 := by unfold szC; rw [if_neg h1, if_pos h2]
      have e2 : szN b wd = 0 := by unfold szN; rw [e1]; rfl
      rw [e1, e2]
      clear e1 e2
      have h1' : 24 ≤ b := by omega
      by_cases g1 : 256 < b
      · clear h2
        go_enter Try.func27, Try.ntmps27
        go_wp2_with fail
        go_ret2
        exact ⟨rfl, rfl⟩
      · by_cases g2 : wd < 1
        · have g1' : b ≤ 256 := by omega
          clear h2
          go_enter Try.func27, Try.ntmps27
          go_wp2_with fail
          go_ret2
          exact ⟨rfl, rfl⟩
        · have g1' : b ≤ 256 := by omega
          have g2' : 1 ≤ wd := by omega
          have g3 : 8 < wd := by omega
          clear h2
          go_enter Try.func27, Try.ntmps27
          go_wp2_with fail
          go_ret2
          exact ⟨rfl, rfl⟩
    · have e1 : szC b wd = 0 := by unfold szC; rw [if_neg h1, if_neg h2]
      obtain ⟨h1', g1', g2', g3, g4, g5, g6⟩ := szN_ok e1
      rw [e1, ← g6]
      clear h1 h2 e1 g4 g5 g6
      go_enter Try.func27, Try.ntmps27
      go_wp2_with fail
      go_ret2
      exact ⟨rfl, rfl⟩
set_option maxRecDepth 100000 in
set_option maxHeartbeats 2000000 in
theorem rsize_any (b wd : Int) (w : World) : Calls Try.prog 31 #[.int .i64 b, .int .i64 wd] w fun e w' => e = .returned (.tuple #[.int .i64 (szN b wd : Nat), .int .i64 (szC b wd)]) ∧ w' = w := by
  by_cases h1 : b < 24
  · have e1 : szC b wd = 9 := by unfold szC; rw [if_pos h1]
    have e2 : szN b wd = 0 := by unfold szN; rw [e1]; rfl
    rw [e1, e2]
    clear e1 e2
    go_enter Try.func31, Try.ntmps31
    go_wp2_with fail
    go_ret2
    exact ⟨rfl, rfl⟩
  · by_cases h2 : 256 < b ∨ wd < 1 ∨ 8 < wd
    · have e1 : szC b wd = 1 := by unfold szC; rw [if_neg h1, if_pos h2]
      have e2 : szN b wd = 0 := by unfold szN; rw [e1]; rfl
      rw [e1, e2]
      clear e1 e2
      have h1' : 24 ≤ b := by omega
      by_cases g1 : 256 < b
      · clear h2
        go_enter Try.func31, Try.ntmps31
        go_wp2_with fail
        go_ret2
        exact ⟨rfl, rfl⟩
      · by_cases g2 : wd < 1
        · have g1' : b ≤ 256 := by omega
          clear h2
          go_enter Try.func31, Try.ntmps31
          go_wp2_with fail
          go_ret2
          exact ⟨rfl, rfl⟩
        · have g1' : b ≤ 256 := by omega
          have g2' : 1 ≤ wd := by omega
          have g3 : 8 < wd := by omega
          clear h2
          go_enter Try.func31, Try.ntmps31
          go_wp2_with fail
          go_ret2
          exact ⟨rfl, rfl⟩
    · have e1 : szC b wd = 0 := by unfold szC; rw [if_neg h1, if_neg h2]
      obtain ⟨h1', g1', g2', g3, g4, g5, g6⟩ := szN_ok e1
      rw [e1, ← g6]
      clear h1 h2 e1 g4 g5 g6
      go_enter Try.func31, Try.ntmps31
      go_wp2_with fail
      go_ret2
      exact ⟨rfl, rfl⟩
set_option maxRecDepth 100000 in
set_option maxHeartbeats 2000000 in
theorem fan_any (b : Int) (w : World) : Calls Try.prog 23 #[.int .i64 b] w fun e w' => e = .returned (.tuple #[.int .i64 (fnN b : Nat), .int .i64 (fnC b)]) ∧ w' = w := by
  rcases Int.lt_or_le b 24 with h1 | h1
  · have e1 : fnC b = 9 := by unfold fnC; rw [if_pos h1]
    have e2 : fnN b = 0 := by unfold fnN; rw [e1]; rfl
    rw [e1, e2]
    clear e1 e2
    go_enter Try.func23, Try.ntmps23
    go_wp2_with fail
    go_ret2
    exact ⟨rfl, rfl⟩
  rcases Int.lt_or_le 256 b with h2 | h2
  · have e1 : fnC b = 1 := by unfold fnC; rw [if_neg (by omega), if_pos h2]
    have e2 : fnN b = 0 := by unfold fnN; rw [e1]; rfl
    rw [e1, e2]
    clear e1 e2
    go_enter Try.func23, Try.ntmps23
    go_wp2_with fail
    go_ret2
    exact ⟨rfl, rfl⟩
  · have e1 : fnC b = 0 := by unfold fnC; rw [if_neg (by omega), if_neg (by omega)]
    obtain ⟨_, _, _, _, g⟩ := fnN_ok e1
    rw [e1, ← g]
    clear e1 g
    go_enter Try.func23, Try.ntmps23
    go_wp2_with fail
    go_ret2
    exact ⟨rfl, rfl⟩
set_option maxRecDepth 100000 in
set_option maxHeartbeats 2000000 in
theorem rfan_any (b : Int) (w : World) : Calls Try.prog 32 #[.int .i64 b] w fun e w' => e = .returned (.tuple #[.int .i64 (fnN b : Nat), .int .i64 (fnC b)]) ∧ w' = w := by
  rcases Int.lt_or_le b 24 with h1 | h1
  · have e1 : fnC b = 9 := by unfold fnC; rw [if_pos h1]
    have e2 : fnN b = 0 := by unfold fnN; rw [e1]; rfl
    rw [e1, e2]
    clear e1 e2
    go_enter Try.func32, Try.ntmps32
    go_wp2_with fail
    go_ret2
    exact ⟨rfl, rfl⟩
  rcases Int.lt_or_le 256 b with h2 | h2
  · have e1 : fnC b = 1 := by unfold fnC; rw [if_neg (by omega), if_pos h2]
    have e2 : fnN b = 0 := by unfold fnN; rw [e1]; rfl
    rw [e1, e2]
    clear e1 e2
    go_enter Try.func32, Try.ntmps32
    go_wp2_with fail
    go_ret2
    exact ⟨rfl, rfl⟩
  · have e1 : fnC b = 0 := by unfold fnC; rw [if_neg (by omega), if_neg (by omega)]
    obtain ⟨_, _, _, _, g⟩ := fnN_ok e1
    rw [e1, ← g]
    clear e1 g
    go_enter Try.func32, Try.ntmps32
    go_wp2_with fail
    go_ret2
    exact ⟨rfl, rfl⟩
set_option maxRecDepth 100000 in
set_option maxHeartbeats 2000000 in
theorem many_any (b wd : Int) (c : Nat) (hc : c < 18446744073709551616) (w : World) : Calls Try.prog 22 #[.int .i64 b, .int .i64 wd, .int .u64 (c : Nat)] w fun e w' => e = .returned (.tuple #[.int .i64 (mnN b wd c : Nat), .int .i64 (mnC b wd c)]) ∧ w' = w := by
  by_cases h1 : szC b wd = 0
  · by_cases h2 : 65536 < c
    · have e1 : mnC b wd c = 1 := by unfold mnC; rw [if_neg (by simp [h1]), if_pos h2]
      have e2 : mnN b wd c = 0 := by unfold mnN; rw [e1]; rfl
      rw [e1, e2]
      clear e1 e2
      have h2' : (65536 : Int) < (c : Int) := by omega
      have h1' := Lib.hid h1
      clear h2
      go_enter Try.func22, Try.ntmps22
      go_wp2_with (first | (go_at_call 27; refine (size_any b wd w).mono ?_; rintro e w1 ⟨rfl, hw1⟩; obtain rfl : w = w1 := hw1.symm) | fail)
      go_ret2
      exact ⟨rfl, rfl⟩
    · have e1 : mnC b wd c = 0 := by unfold mnC; rw [if_neg (by simp [h1]), if_neg h2]
      obtain ⟨_, _, e2⟩ := mnN_ok e1
      obtain ⟨_, _, _, _, g4, g5, _⟩ := szN_ok h1
      have h2' : (c : Int) ≤ 65536 := by omega
      rw [e1, e2]
      clear e1 e2 h2
      have HS := fun w => size_any b wd w
      rw [h1] at HS
      obtain ⟨n, hn⟩ : ∃ n, n = szN b wd := ⟨_, rfl⟩
      rw [← hn] at HS g4 g5 ⊢
      have e3 : (((c + n - 1) / n : Nat) : Int) = ((c : Int) + (n : Int) - 1) / (n : Int) := by rw [Int.natCast_ediv]; congr 1; omega
      rw [e3]
      have hw1 : wrap64 (c : Int) = (c : Int) := by unfold wrap64; omega
      have HS' := Lib.hid HS
      clear e3 hn h1 HS
      go_enter Try.func22, Try.ntmps22
      go_wp2_with (first | (go_at_call 27; refine (HS'.out w).mono ?_; rintro e w1 ⟨rfl, hw1⟩; obtain rfl : w = w1 := hw1.symm) | fail)
      go_ret2
      exact ⟨rfl, rfl⟩
  · have e1 : mnC b wd c = szC b wd := by unfold mnC; rw [if_pos h1]
    have e2 : mnN b wd c = 0 := by unfold mnN; rw [e1, if_neg h1]
    rw [e1, e2]
    clear e1 e2
    have hb : (szC b wd == 0) = false := by simpa using h1
    clear h1
    go_enter Try.func22, Try.ntmps22
    go_wp2_with (first | (go_at_call 27; refine (size_any b wd w).mono ?_; rintro e w1 ⟨rfl, hw1⟩; obtain rfl : w = w1 := hw1.symm) | fail)
    go_ret2
    exact ⟨rfl, rfl⟩
set_option maxRecDepth 100000 in
set_option maxHeartbeats 2000000 in
theorem rmany_any (b wd : Int) (c : Nat) (hc : c < 18446744073709551616) (w : World) : Calls Try.prog 30 #[.int .i64 b, .int .i64 wd, .int .u64 (c : Nat)] w fun e w' => e = .returned (.tuple #[.int .i64 (mnN b wd c : Nat), .int .i64 (mnC b wd c)]) ∧ w' = w := by
  by_cases h1 : szC b wd = 0
  · by_cases h2 : 65536 < c
    · have e1 : mnC b wd c = 1 := by unfold mnC; rw [if_neg (by simp [h1]), if_pos h2]
      have e2 : mnN b wd c = 0 := by unfold mnN; rw [e1]; rfl
      rw [e1, e2]
      clear e1 e2
      have h2' : (65536 : Int) < (c : Int) := by omega
      have h1' := Lib.hid h1
      clear h2
      go_enter Try.func30, Try.ntmps30
      go_wp2_with (first | (go_at_call 31; refine (rsize_any b wd w).mono ?_; rintro e w1 ⟨rfl, hw1⟩; obtain rfl : w = w1 := hw1.symm) | fail)
      go_ret2
      exact ⟨rfl, rfl⟩
    · have e1 : mnC b wd c = 0 := by unfold mnC; rw [if_neg (by simp [h1]), if_neg h2]
      obtain ⟨_, _, e2⟩ := mnN_ok e1
      obtain ⟨_, _, _, _, g4, g5, _⟩ := szN_ok h1
      have h2' : (c : Int) ≤ 65536 := by omega
      rw [e1, e2]
      clear e1 e2 h2
      have HS := fun w => rsize_any b wd w
      rw [h1] at HS
      obtain ⟨n, hn⟩ : ∃ n, n = szN b wd := ⟨_, rfl⟩
      rw [← hn] at HS g4 g5 ⊢
      have e3 : (((c + n - 1) / n : Nat) : Int) = ((c : Int) + (n : Int) - 1) / (n : Int) := by rw [Int.natCast_ediv]; congr 1; omega
      rw [e3]
      have hw1 : wrap64 (c : Int) = (c : Int) := by unfold wrap64; omega
      have HS' := Lib.hid HS
      clear e3 hn h1 HS
      go_enter Try.func30, Try.ntmps30
      go_wp2_with (first | (go_at_call 31; refine (HS'.out w).mono ?_; rintro e w1 ⟨rfl, hw1⟩; obtain rfl : w = w1 := hw1.symm) | fail)
      go_ret2
      exact ⟨rfl, rfl⟩
  · have e1 : mnC b wd c = szC b wd := by unfold mnC; rw [if_pos h1]
    have e2 : mnN b wd c = 0 := by unfold mnN; rw [e1, if_neg h1]
    rw [e1, e2]
    clear e1 e2
    have hb : (szC b wd == 0) = false := by simpa using h1
    clear h1
    go_enter Try.func30, Try.ntmps30
    go_wp2_with (first | (go_at_call 31; refine (rsize_any b wd w).mono ?_; rintro e w1 ⟨rfl, hw1⟩; obtain rfl : w = w1 := hw1.symm) | fail)
    go_ret2
    exact ⟨rfl, rfl⟩
set_option maxRecDepth 100000 in
set_option maxHeartbeats 2000000 in
theorem each_any (d : Nat) (hd : d ≤ 8) (w : World) : Calls Try.prog 40 #[.int .i64 (d : Nat)] w fun e w' => e = .returned (.int .i64 (each d : Nat)) ∧ w' = w := by
  by_cases h1 : d = 0
  · subst h1
    go_enter Try.func40, Try.ntmps40
    go_wp2_with fail
    go_ret
    exact ⟨rfl, rfl⟩
  · have e1 : (each d : Int) = 5 * (d : Int) := by unfold each; rw [if_neg h1]; omega
    rw [e1]
    have h0 : ((d : Int) == 0) = false := by simpa using h1
    clear h1 e1
    go_enter Try.func40, Try.ntmps40
    go_wp2_with fail
    go_ret
    exact ⟨rfl, rfl⟩
set_option maxRecDepth 100000 in
set_option maxHeartbeats 2000000 in
theorem reach_any (d : Nat) (hd : d ≤ 8) (w : World) : Calls Try.prog 43 #[.int .i64 (d : Nat)] w fun e w' => e = .returned (.int .i64 (each d : Nat)) ∧ w' = w := by
  by_cases h1 : d = 0
  · subst h1
    go_enter Try.func43, Try.ntmps43
    go_wp2_with fail
    go_ret
    exact ⟨rfl, rfl⟩
  · have e1 : (each d : Int) = 5 * (d : Int) := by unfold each; rw [if_neg h1]; omega
    rw [e1]
    have h0 : ((d : Int) == 0) = false := by simpa using h1
    clear h1 e1
    go_enter Try.func43, Try.ntmps43
    go_wp2_with fail
    go_ret
    exact ⟨rfl, rfl⟩
set_option maxRecDepth 100000 in
set_option maxHeartbeats 2000000 in
theorem need_any (wd : Int) (c : Nat) (hc : c < 18446744073709551616) (w : World) : Calls Try.prog 25 #[.int .i64 wd, .int .u64 (c : Nat)] w fun e w' => e = .returned (.tuple #[.int .i64 (ndN wd c : Nat), .int .i64 (ndC wd c)]) ∧ w' = w := by
  by_cases h0 : wd < 0 ∨ 8 < wd ∨ 65536 < c
  · have e1 : ndC wd c = 1 := by unfold ndC; rw [if_pos h0]
    have e2 : ndN wd c = 0 := by unfold ndN; rw [e1]; rfl
    rw [e1, e2]
    clear e1 e2
    rcases Int.lt_or_le wd 0 with h1 | h1
    · clear h0
      go_enter Try.func25, Try.ntmps25
      go_wp2_with fail
      go_ret2
      exact ⟨rfl, rfl⟩
    rcases Int.lt_or_le 8 wd with h2 | h2
    · clear h0
      go_enter Try.func25, Try.ntmps25
      go_wp2_with fail
      go_ret2
      exact ⟨rfl, rfl⟩
    · have h3 : (65536 : Int) < (c : Int) := by omega
      clear h0
      go_enter Try.func25, Try.ntmps25
      go_wp2_with fail
      go_ret2
      exact ⟨rfl, rfl⟩
  · have e1 : ndC wd c = 0 := by unfold ndC; rw [if_neg h0]
    have e2 : ndN wd c = 1 + (each wd.toNat * c + 63) / 64 := by unfold ndN; rw [if_pos e1]
    rw [e1, e2]
    clear e1 e2
    obtain ⟨d, rfl⟩ : ∃ d : Nat, wd = (d : Int) := ⟨wd.toNat, by omega⟩
    have hd : d ≤ 8 := by omega
    have hc2 : c ≤ 65536 := by omega
    have HE := fun w => each_any d hd w
    simp only [Int.toNat_natCast]
    have h40 : each d ≤ 40 := by unfold each; split <;> omega
    obtain ⟨x, hx⟩ : ∃ x, x = each d := ⟨_, rfl⟩
    rw [← hx] at HE h40 ⊢
    have hp : x * c ≤ 2621440 := Nat.le_trans (Nat.mul_le_mul h40 hc2) (by decide)
    obtain ⟨p, hpe⟩ : ∃ p, p = x * c := ⟨_, rfl⟩
    rw [← hpe] at hp ⊢
    have e3 : ((1 + (p + 63) / 64 : Nat) : Int) = 1 + ((p : Int) + 64 - 1) / 64 := by omega
    rw [e3]
    have hw1 : wrap64 (c : Int) = (c : Int) := by unfold wrap64; omega
    have hm : (x : Int) * (c : Int) = (p : Int) := by rw [hpe]; exact (Int.natCast_mul _ _).symm
    have hw2 : wrap64 ((x : Int) * (c : Int)) = (p : Int) := by rw [hm]; unfold wrap64; omega
    have h8 : (d : Int) ≤ 8 := by omega
    have hc8 : (c : Int) ≤ 65536 := by omega
    have HE' := Lib.hid HE
    clear e3 hpe hx HE h0 hm
    go_enter Try.func25, Try.ntmps25
    go_wp2_with (first | (go_at_call 40; refine (HE'.out w).mono ?_; rintro e w1 ⟨rfl, hw1⟩; obtain rfl : w = w1 := hw1.symm) | fail)
    go_ret2
    exact ⟨rfl, rfl⟩
set_option maxRecDepth 100000 in
set_option maxHeartbeats 2000000 in
theorem rneed_any (wd : Int) (c : Nat) (hc : c < 18446744073709551616) (w : World) : Calls Try.prog 34 #[.int .i64 wd, .int .u64 (c : Nat)] w fun e w' => e = .returned (.tuple #[.int .i64 (ndN wd c : Nat), .int .i64 (ndC wd c)]) ∧ w' = w := by
  by_cases h0 : wd < 0 ∨ 8 < wd ∨ 65536 < c
  · have e1 : ndC wd c = 1 := by unfold ndC; rw [if_pos h0]
    have e2 : ndN wd c = 0 := by unfold ndN; rw [e1]; rfl
    rw [e1, e2]
    clear e1 e2
    rcases Int.lt_or_le wd 0 with h1 | h1
    · clear h0
      go_enter Try.func34, Try.ntmps34
      go_wp2_with fail
      go_ret2
      exact ⟨rfl, rfl⟩
    rcases Int.lt_or_le 8 wd with h2 | h2
    · clear h0
      go_enter Try.func34, Try.ntmps34
      go_wp2_with fail
      go_ret2
      exact ⟨rfl, rfl⟩
    · have h3 : (65536 : Int) < (c : Int) := by omega
      clear h0
      go_enter Try.func34, Try.ntmps34
      go_wp2_with fail
      go_ret2
      exact ⟨rfl, rfl⟩
  · have e1 : ndC wd c = 0 := by unfold ndC; rw [if_neg h0]
    have e2 : ndN wd c = 1 + (each wd.toNat * c + 63) / 64 := by unfold ndN; rw [if_pos e1]
    rw [e1, e2]
    clear e1 e2
    obtain ⟨d, rfl⟩ : ∃ d : Nat, wd = (d : Int) := ⟨wd.toNat, by omega⟩
    have hd : d ≤ 8 := by omega
    have hc2 : c ≤ 65536 := by omega
    have HE := fun w => reach_any d hd w
    simp only [Int.toNat_natCast]
    have h40 : each d ≤ 40 := by unfold each; split <;> omega
    obtain ⟨x, hx⟩ : ∃ x, x = each d := ⟨_, rfl⟩
    rw [← hx] at HE h40 ⊢
    have hp : x * c ≤ 2621440 := Nat.le_trans (Nat.mul_le_mul h40 hc2) (by decide)
    obtain ⟨p, hpe⟩ : ∃ p, p = x * c := ⟨_, rfl⟩
    rw [← hpe] at hp ⊢
    have e3 : ((1 + (p + 63) / 64 : Nat) : Int) = 1 + ((p : Int) + 64 - 1) / 64 := by omega
    rw [e3]
    have hw1 : wrap64 (c : Int) = (c : Int) := by unfold wrap64; omega
    have hm : (x : Int) * (c : Int) = (p : Int) := by rw [hpe]; exact (Int.natCast_mul _ _).symm
    have hw2 : wrap64 ((x : Int) * (c : Int)) = (p : Int) := by rw [hm]; unfold wrap64; omega
    have h8 : (d : Int) ≤ 8 := by omega
    have hc8 : (c : Int) ≤ 65536 := by omega
    have HE' := Lib.hid HE
    clear e3 hpe hx HE h0 hm
    go_enter Try.func34, Try.ntmps34
    go_wp2_with (first | (go_at_call 43; refine (HE'.out w).mono ?_; rintro e w1 ⟨rfl, hw1⟩; obtain rfl : w = w1 := hw1.symm) | fail)
    go_ret2
    exact ⟨rfl, rfl⟩
end Go.Proofs.Ytiocmggnmggapaa
