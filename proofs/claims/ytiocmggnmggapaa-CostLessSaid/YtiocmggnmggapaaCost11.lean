/- The document's way to the files of files: number by number; plain. -/
import Derived.Test.YtiocmggnmggapaaCost10
namespace Go.Proofs.Ytiocmggnmggapaa
open Go.RowKit CostPlain
set_option linter.unusedVariables false

theorem chs_append_lt (l : List Nat) (x k j : Nat) (h : j * k + k ≤ l.length) : chs (l ++ [x]) k j = chs l k j := by
  unfold chs
  rw [List.drop_append_of_le_length (by omega), List.take_append_of_le_length (by rw [List.length_drop]; omega)]
theorem chs_append_last (l : List Nat) (x k j : Nat) (h1 : j * k ≤ l.length) (h2 : l.length < j * k + k) : chs (l ++ [x]) k j = chs l k j + x := by
  unfold chs
  rw [List.drop_append_of_le_length h1]
  rw [List.take_of_length_le (l := l.drop (j * k) ++ [x]) (by rw [List.length_append, List.length_drop]; simp <;> omega), List.take_of_length_le (by rw [List.length_drop]; omega), List.sum_append]
  simp
theorem mrgL_new (k : Nat) (l : List Nat) (x : Nat) (hk : 1 ≤ k) (h : l.length % k = 0) : mrgL k (l ++ [x]) = mrgL k l ++ [x] := by
  obtain ⟨q, hq⟩ : ∃ q, l.length = q * k := ⟨l.length / k, by have := Nat.div_add_mod l.length k; rw [h] at this; rw [Nat.mul_comm]; omega⟩
  have e1 : (l.length + k - 1) / k = q := by rw [hq]; exact Nat.div_eq_of_lt_le (by omega) (by rw [Nat.succ_mul]; omega)
  have e2 : ((l ++ [x]).length + k - 1) / k = q + 1 := by
    rw [List.length_append, hq]
    exact Nat.div_eq_of_lt_le (by rw [Nat.succ_mul]; simp <;> omega) (by rw [Nat.succ_mul, Nat.succ_mul]; simp <;> omega)
  unfold mrgL
  rw [e1, e2, List.range_succ, List.map_append]
  congr 1
  · refine List.map_congr_left (fun j hj => ?_)
    have hj := List.mem_range.1 hj
    refine chs_append_lt l x k j ?_
    have : (j + 1) * k ≤ q * k := Nat.mul_le_mul_right _ hj
    rw [Nat.succ_mul] at this
    omega
  · simp only [List.map_cons, List.map_nil]
    rw [chs_append_last l x k q (by omega) (by omega)]
    unfold chs
    rw [List.drop_of_length_le (by omega)]
    simp
theorem mrgL_more (k : Nat) (l : List Nat) (x : Nat) (hk : 1 ≤ k) (h : l.length % k ≠ 0) : 0 < (mrgL k l).length ∧ mrgL k (l ++ [x]) = (mrgL k l).set ((mrgL k l).length - 1) ((mrgL k l).getD ((mrgL k l).length - 1) 0 + x) := by
  have h0 := Nat.div_add_mod l.length k
  have h1 := Nat.mod_lt l.length (show 0 < k by omega)
  obtain ⟨q, hq⟩ : ∃ q, q = l.length / k := ⟨_, rfl⟩
  rw [← hq, Nat.mul_comm] at h0
  have e1 : (l.length + k - 1) / k = q + 1 := Nat.div_eq_of_lt_le (by rw [Nat.succ_mul]; omega) (by rw [Nat.succ_mul, Nat.succ_mul]; omega)
  have e2 : ((l ++ [x]).length + k - 1) / k = q + 1 := by
    rw [List.length_append]
    exact Nat.div_eq_of_lt_le (by rw [Nat.succ_mul]; simp <;> omega) (by rw [Nat.succ_mul, Nat.succ_mul]; simp <;> omega)
  have hl : (mrgL k l).length = q + 1 := by rw [mrgL_length, e1]
  refine ⟨by omega, ?_⟩
  rw [hl, Nat.add_sub_cancel]
  have hlast : (mrgL k l).getD q 0 = chs l k q := by unfold mrgL; rw [e1]; simp [List.getD]
  rw [hlast]
  refine List.ext_getElem? (fun j => ?_)
  rw [List.getElem?_set]
  unfold mrgL
  rw [e1, e2]
  by_cases hj : q = j
  · subst hj
    rw [if_pos rfl, if_pos (by simp)]
    simp only [List.getElem?_map, List.getElem?_range (Nat.lt_succ_self q), Option.map_some]
    rw [chs_append_last l x k q (by omega) (by omega)]
  · rw [if_neg hj]
    rcases Nat.lt_or_ge j (q + 1) with hj2 | hj2
    · simp only [List.getElem?_map, List.getElem?_range hj2, Option.map_some]
      rw [chs_append_lt l x k j (by
        have : (j + 1) * k ≤ q * k := Nat.mul_le_mul_right _ (by omega)
        rw [Nat.succ_mul] at this; omega)]
    · simp [hj2]
end Go.Proofs.Ytiocmggnmggapaa
