/- What the six statements say of sorts' costs: plain. -/
import Derived.Test.YtiocmggnmggapaaCost11
namespace Go.Proofs.Ytiocmggnmggapaa
open Go.RowKit CostPlain
set_option linter.unusedVariables false

theorem lg_ge (k : Nat) (hk : 2 ≤ k) : ∀ n, n ≤ k ^ lg k n := fun n => by
  induction n using Nat.strongRecOn with
  | _ n ih =>
    rw [lg]
    split
    · rename_i h
      have h1 : (n - 1) / k < n - 1 := Nat.div_lt_self (by omega) (by omega)
      have h2 := ih ((n - 1) / k + 1) (by omega)
      have h3 := Nat.div_add_mod (n - 1) k
      have h4 := Nat.mod_lt (n - 1) (show 0 < k by omega)
      have h5 := Nat.mul_le_mul_left k h2
      rw [Nat.mul_succ] at h5
      rw [Nat.pow_succ, Nat.mul_comm]
      omega
    · rw [Nat.pow_zero]; omega
theorem lg_lt (k : Nat) (hk : 2 ≤ k) : ∀ n i, i < lg k n → k ^ i < n := fun n => by
  induction n using Nat.strongRecOn with
  | _ n ih =>
    intro i hi
    rw [lg] at hi
    split at hi
    · rename_i h
      match i, hi with
      | 0, _ => rw [Nat.pow_zero]; omega
      | i + 1, hi =>
        have h1 : (n - 1) / k < n - 1 := Nat.div_lt_self (by omega) (by omega)
        have h2 := ih ((n - 1) / k + 1) (by omega) i (by omega)
        have h3 : k ^ i ≤ (n - 1) / k := by omega
        rw [Nat.le_div_iff_mul_le (by omega)] at h3
        rw [Nat.pow_succ]
        omega
    · omega
theorem lg_last {k n i : Nat} (hk : 2 ≤ k) (hn : n < 18446744073709551616) (hi : i < lg k n) (h : 18446744073709551615 / k < k ^ i) : i + 1 = lg k n := by
  rcases Nat.lt_or_ge (i + 1) (lg k n) with h1 | h1
  · have h2 := lg_lt k hk n (i + 1) h1
    rw [Nat.pow_succ] at h2
    rw [Nat.div_lt_iff_lt_mul (by omega)] at h
    omega
  · omega
theorem fls_lg {k : Nat} (hk : 2 ≤ k) : ∀ (N : Nat) (l : List Nat), l.length = N → (fls k l).length = max 1 (lg k N) := fun N => by
  induction N using Nat.strongRecOn with
  | _ N ih =>
    intro l hl
    rcases Nat.lt_or_ge k l.length with h | h
    · rw [fls_step h hk, List.length_cons]
      have h1 := mrgL_lt h hk
      rw [ih _ (by rw [← hl]; exact h1) (mrgL k l) rfl, mrgL_length, hl]
      rw [lg_step (n := N) (by omega) hk]
      have h2 : (N + k - 1) / k = (N - 1) / k + 1 := by
        rw [show N + k - 1 = (N - 1) + k by omega, Nat.add_div_right _ (by omega)]
      rw [h2]
      have h3 : 1 ≤ (N - 1) / k := by rw [Nat.le_div_iff_mul_le (by omega)]; omega
      rw [lg_step (n := (N - 1) / k + 1) (by omega) hk]
      omega
    · rw [fls_stop h, List.length_singleton]
      rcases Nat.lt_or_ge 1 N with h1 | h1
      · rw [lg_step h1 hk, lg_one]
        · omega
        · have : (N - 1) / k = 0 := Nat.div_eq_of_lt (by omega)
          omega
      · rw [lg_one k N h1]; rfl
theorem lg_max1 (k n : Nat) : lg k (max 1 n) = lg k n := by
  rcases Nat.eq_zero_or_pos n with h | h
  · subst h; rw [lg_one k 0 (by omega), lg_one]; omega
  · rw [Nat.max_eq_right h]
theorem nm_two (c : Nat) : nm c ≤ 2 * c / 3 + 1 := by unfold nm; split <;> omega
/-- the levels, each beside the one ahead -/
theorem lvs_next (B : Nat) (hB : 25 ≤ B) : ∀ c i, i + 1 < (lvs B c).length → (lvs B c).getD (i + 1) 0 = nm ((lvs B c).getD i 0) ∧ B < (lvs B c).getD i 0 := fun c => by
  induction c using Nat.strongRecOn with
  | _ c ih =>
    intro i hi
    rcases Nat.lt_or_ge B c with h | h
    · rw [lvs_step h hB] at hi ⊢
      have h1 := nm_lt (c := c) (by omega)
      match i with
      | 0 =>
        refine ⟨?_, h⟩
        simp only [List.getD_cons_succ, List.getD_cons_zero]
        rcases Nat.lt_or_ge B (nm c) with h2 | h2
        · rw [lvs_step h2 hB, List.getD_cons_zero]
        · rw [lvs_stop h2, List.getD_cons_zero]
      | i + 1 =>
        simp only [List.getD_cons_succ]
        exact ih _ h1 i (by simpa using hi)
    · rw [lvs_stop h] at hi; simp at hi
theorem lvs_head (B c : Nat) (hB : 25 ≤ B) : (lvs B c).getD 0 0 = c := by
  rcases Nat.lt_or_ge B c with h | h
  · rw [lvs_step h hB, List.getD_cons_zero]
  · rw [lvs_stop h, List.getD_cons_zero]
theorem crec_cons (a : Nat) (L : List Nat) : ∀ k, crec (a :: L) (k + 1) = a + 3 * L.getD 0 0 + crec L k
  | 0 => by simp [crec]
  | k + 1 => by
    rw [crec, crec_cons a L k, crec]
    simp only [List.getD_cons_succ]
    omega
def rcs (B c : Nat) : Nat := crec (lvs B c) ((lvs B c).length - 1)
theorem rcs_stop {B c : Nat} (h : c ≤ B) : rcs B c = 0 := by unfold rcs; rw [lvs_stop h]; rfl
theorem rcs_step {B c : Nat} (h : B < c) (hB : 25 ≤ B) : rcs B c = c + 3 * nm c + rcs B (nm c) := by
  unfold rcs
  rw [lvs_step h hB, List.length_cons, Nat.add_sub_cancel]
  have h1 := lvs_length B (nm c)
  rw [show (lvs B (nm c)).length = (lvs B (nm c)).length - 1 + 1 by omega, crec_cons, lvs_head B _ hB, Nat.add_sub_cancel]
theorem rcs_mono {B : Nat} (hB : 25 ≤ B) : ∀ c d, c ≤ d → rcs B c ≤ rcs B d := fun c => by
  induction c using Nat.strongRecOn with
  | _ c ih =>
    intro d hcd
    rcases Nat.lt_or_ge B c with h | h
    · rw [rcs_step h hB, rcs_step (Nat.lt_of_lt_of_le h hcd) hB]
      have h1 := nm_mono hcd
      have h2 := ih _ (nm_lt (c := c) (by omega)) _ h1
      omega
    · rw [rcs_stop h]; exact Nat.zero_le _
theorem rcN_mono {b : Int} {c : Nat} (h : lvC b (c + 1) = 0) : rcN b c ≤ rcN b (c + 1) := by
  obtain ⟨h1, h2, h3⟩ := lvC_ok h
  have h0 : lvC b c = 0 := by unfold lvC; rw [if_neg (by omega), if_neg (by omega)]
  obtain ⟨hB, _, _⟩ := bs_ok h1 h2
  unfold rcN lvL
  rw [if_pos h, if_pos h0, if_pos h, if_pos h0]
  exact rcs_mono hB _ _ (by omega)
/-- each list of files beside the one ahead -/
theorem fls_all (k c : Nat) (hk : 2 ≤ k) : ∀ (N : Nat) (l : List Nat), l.length = N → l.sum = c → ∀ j, j < (fls k l).length → ((fls k l).getD j []).sum = c ∧ (j + 1 < (fls k l).length → (((fls k l).getD j []).length + k - 1) / k = ((fls k l).getD (j + 1) []).length) ∧ (j + 1 = (fls k l).length → ((fls k l).getD j []).length ≤ k) := fun N => by
  induction N using Nat.strongRecOn with
  | _ N ih =>
    intro l hl hs j hj
    rcases Nat.lt_or_ge k l.length with h | h
    · have h1 := mrgL_lt h hk
      have ih' := ih _ (by rw [← hl]; exact h1) (mrgL k l) rfl (by rw [mrgL_sum k l (by omega)]; exact hs)
      have hhead : (fls k (mrgL k l)).getD 0 [] = mrgL k l := by rw [fls]; split <;> rfl
      have hpos : 1 ≤ (fls k (mrgL k l)).length := by rw [fls]; split <;> simp
      rw [fls_step h hk] at hj ⊢
      match j with
      | 0 =>
        simp only [List.getD_cons_zero, List.getD_cons_succ, List.length_cons, hhead, mrgL_length]
        exact ⟨hs, fun _ => trivial, fun e => by omega⟩
      | j + 1 =>
        simp only [List.getD_cons_succ, List.length_cons] at hj ⊢
        have := ih' j (by omega)
        exact ⟨this.1, fun e => this.2.1 (by omega), fun e => this.2.2 (by omega)⟩
    · rw [fls_stop h] at hj ⊢
      have hj0 : j = 0 := by simpa using hj
      subst hj0
      simp only [List.getD_cons_zero, List.length_singleton]
      exact ⟨hs, fun e => by omega, fun _ => h⟩
theorem fls_head (k : Nat) (l : List Nat) : (fls k l).getD 0 [] = l := by rw [fls]; split <;> rfl
theorem fls_pos (k : Nat) (l : List Nat) : 1 ≤ (fls k l).length := by rw [fls]; split <;> simp
theorem frs_all {b wd : Int} {c : Nat} (h : mnC b wd c = 0) : (frs (mnN b wd c) (szN b wd) c).sum = c := by
  obtain ⟨h1, h2, h3⟩ := mnN_ok h
  obtain ⟨b1, b2, _, _, b5, b6, _⟩ := szN_ok h1
  rw [frs_sum _ _ (by omega), h3]
  have h4 := Nat.div_add_mod (c + szN b wd - 1) (szN b wd)
  have h5 := Nat.mod_lt (c + szN b wd - 1) (show 0 < szN b wd by omega)
  rw [Nat.mul_comm] at h4
  omega
/-- what the files are, all in one -/
theorem files_all {b wd : Int} {c : Nat} (h : mnC b wd c = 0) : 2 ≤ (files b wd c).length ∧ ((files b wd c).getD 0 []).length = mnN b wd c ∧ ((files b wd c).getD ((files b wd c).length - 1) []) = [c] ∧ (files b wd c).length = max 1 (lg (fnN b) (mnN b wd c)) + 1 ∧
    ∀ j, j < (files b wd c).length → ((files b wd c).getD j []).sum = c ∧ (0 < j → (((files b wd c).getD (j - 1) []).length + fnN b - 1) / fnN b ≤ max ((files b wd c).getD j []).length 1) := by
  have hE : files b wd c = fls (fnN b) (frs (mnN b wd c) (szN b wd) c) ++ [[c]] := by unfold files; rw [if_pos h]
  obtain ⟨h1, h2, h3⟩ := mnN_ok h
  obtain ⟨b1, b2, _, _, b5, b6, _⟩ := szN_ok h1
  have hF0 : fnC b = 0 := by unfold fnC; rw [if_neg (by omega), if_neg (by omega)]
  obtain ⟨_, _, f1, f2, _⟩ := fnN_ok hF0
  have hs := frs_all h
  have hl : (frs (mnN b wd c) (szN b wd) c).length = mnN b wd c := by simp [frs]
  have hlg := fls_lg (k := fnN b) (by omega) _ _ hl
  rw [hE]
  generalize frs (mnN b wd c) (szN b wd) c = r at *
  generalize fnN b = k at *
  have hall := fls_all k c (by omega) _ r rfl hs
  have hp := fls_pos k r
  have hh := fls_head k r
  generalize fls k r = F at *
  have g1 : ∀ j, j < F.length → (F ++ [[c]]).getD j [] = F.getD j [] := fun j hj => by
    unfold List.getD; rw [List.getElem?_append_left hj]
  have g2 : (F ++ [[c]]).getD F.length [] = [c] := by simp [List.getD]
  rw [List.length_append, List.length_singleton, Nat.add_sub_cancel, g2, g1 0 (by omega), hh]
  refine ⟨by omega, hl, rfl, by omega, fun j hj => ?_⟩
  rcases Nat.lt_or_ge j F.length with h4 | h4
  · rw [g1 j h4]
    refine ⟨(hall j h4).1, fun h5 => ?_⟩
    rw [g1 (j - 1) (by omega)]
    have h6 := (hall (j - 1) (by omega)).2.1 (by omega)
    rw [show j - 1 + 1 = j by omega] at h6
    rw [h6]
    exact Nat.le_max_left _ _
  · obtain rfl : j = F.length := by omega
    rw [g2]
    refine ⟨by simp, fun h5 => ?_⟩
    rw [g1 (F.length - 1) (by omega)]
    have h6 := (hall (F.length - 1) (by omega)).2.2 (by omega)
    rw [List.length_singleton, Nat.max_self, ← Nat.lt_succ_iff, Nat.div_lt_iff_lt_mul (by omega)]
    omega
/-- the sectors -/
def scs (wd : Int) (l : List Nat) : Nat := (l.map (ndN wd)).sum
def sec (wd : Int) (ls : List (List Nat)) : Nat := scs wd ls.flatten
theorem scs_append (wd : Int) (a b : List Nat) : scs wd (a ++ b) = scs wd a + scs wd b := by unfold scs; rw [List.map_append, List.sum_append]
theorem ndN_le (wd : Int) (c : Nat) : ndN wd c ≤ 40962 := by
  unfold ndN
  split
  · rename_i h
    have h1 : 0 ≤ wd ∧ wd ≤ 8 ∧ c ≤ 65536 := by
      by_cases h0 : wd < 0 ∨ 8 < wd ∨ 65536 < c
      · unfold ndC at h; rw [if_pos h0] at h; exact absurd h (by decide)
      · omega
    have h2 : each wd.toNat ≤ 40 := by unfold each; split <;> omega
    have h3 : each wd.toNat * c ≤ 40 * 65536 := Nat.mul_le_mul h2 h1.2.2
    omega
  · omega
theorem scs_le (wd : Int) (l : List Nat) : scs wd l ≤ 40962 * l.length := by
  induction l with
  | nil => exact Nat.zero_le _
  | cons x l ih =>
    have := ndN_le wd x
    unfold scs at ih ⊢
    simp only [List.map_cons, List.sum_cons, List.length_cons, Nat.mul_succ]
    omega
theorem files_sec {b wd : Int} {c : Nat} (h : mnC b wd c = 0) : ndN wd c ≤ sec wd (files b wd c) := by
  have hE : files b wd c = fls (fnN b) (frs (mnN b wd c) (szN b wd) c) ++ [[c]] := by unfold files; rw [if_pos h]
  rw [hE]
  unfold sec
  rw [List.flatten_append, scs_append]
  simp [scs]
end Go.Proofs.Ytiocmggnmggapaa
