/- What the reference's number does. -/
import Derived.Test.YteeieeoieagclaaZeros3
namespace Go.Proofs.Yteeieeoieagclaa
open Go.RowKit ZerosPlain
set_option linter.unusedVariables false

theorem cap_big {n : Nat} (h : 65536 < n) : ((cap n : Nat) : Int) = 65537 := by
  unfold cap
  omega

theorem num_drop_le (xs : List Nat) (i : Nat) (h : 65536 < num (xs.drop i)) : 65536 < num xs := by
  induction i generalizing xs with
  | zero => simpa using h
  | succ i ih =>
    cases xs with
    | nil => simp [num] at h
    | cons x xs =>
      rw [List.drop_succ_cons] at h
      have := ih xs h
      rw [num]; omega

set_option maxRecDepth 100000 in
set_option maxHeartbeats 2000000 in
theorem rnumber_any (v : Value) (xs : List Nat) (w : World) (hv : NumsAt w v xs) (h2 : ∀ x ∈ xs, x < 2) :
    Calls Try.prog 21 #[v] w fun e w' => e = .returned (.int .u64 (cap (num xs) : Nat)) ∧ w' = w := by
  obtain ⟨a, cp, rfl, hm, hc⟩ := hv
  unfold maxLen at hm
  obtain ⟨n, hn⟩ : ∃ n, n = xs.length := ⟨_, rfl⟩
  rw [← hn] at hm ⊢
  have hm' : (n : Int) ≤ 9223372036854775807 := by omega
  clear hm
  have Hn := Lib.hid hn
  have H2 := Lib.hid h2
  clear hn h2
  go_enter Try.func21, Try.ntmps21
  go_wp2
  go_loopw [3, 4] (fun nv iv wr => ∃ (i m : Nat) (I : Int), iv = .int .i64 I ∧ Hid (I = (i : Int) - 1) ∧ i ≤ n ∧ nv = .int .u64 (m : Nat) ∧ m ≤ 65536 ∧ Hid (m = num (xs.drop i)) ∧ wr = w) (fun _ iv _ => (intOf iv + 1).toNat)
  case atStart => exact ⟨n, 0, _, rfl, rfl, Nat.le_refl _, rfl, by omega, by show _ = _; rw [List.drop_of_length_le (by have := Hn.out; omega)]; rfl, rfl⟩
  case round =>
    obtain ⟨i, m, I, rfl, hI', hi, rfl, hm2, hd, rfl⟩ := hrel
    have hI := hI'.out
    clear hI'
    by_cases hlt : 0 < i
    · obtain ⟨j, rfl⟩ : ∃ j, i = j + 1 := ⟨i - 1, by omega⟩
      have hIj : I = (j : Int) := by omega
      subst hIj
      have hj : j < xs.length := by have := Hn.out; omega
      obtain ⟨x, rfl, hx⟩ := hc j hj
      have hx2 := H2.out xs[j] (List.getElem_mem hj)
      have hnext : num (xs.drop j) = 2 * m + xs[j] + 1 := by
        rw [List.drop_eq_getElem_cons hj, num, hd.out]; omega
      have Hnext := Lib.hid hnext
      generalize xs[j] = c at hx hx2 Hnext
      clear hnext hc hI hj
      by_cases hbig : 65536 < 2 * m + c + 1
      · have hb : 65536 < 2 * (m : Int) + (c : Int) + 1 := by omega
        go_wp2_with fail
        go_ret
        refine ⟨?_, rfl⟩
        have h1 := num_drop_le xs j (by rw [Hnext.out]; exact hbig)
        have e := cap_big h1
        rw [e]
        rfl
      · obtain ⟨y, hy⟩ : ∃ y : Nat, y = 2 * m + c + 1 := ⟨_, rfl⟩
        have hy' : 2 * (m : Int) + (c : Int) + 1 = (y : Int) := by omega
        have hb : (y : Int) ≤ 65536 := by omega
        have Hy := Lib.hid hy
        clear hbig hy
        go_wp2_with fail
        exact ⟨⟨j, y, (j : Int) - 1, rfl, rfl, by omega, rfl, by omega, by show _ = _; rw [Hy.out, Hnext.out], trivial⟩, by simp [intOf]⟩
    · have hi0 : i = 0 := by omega
      subst hi0
      have hI1 : I = -1 := by omega
      subst hI1
      clear hc hI
      go_wp2_with fail
      go_ret
      refine ⟨ret_int ?_, rfl⟩
      have h1 := hd.out
      rw [List.drop_zero] at h1
      have e : cap (num xs) = m := by unfold cap; omega
      rw [e]
end Go.Proofs.Yteeieeoieagclaa
