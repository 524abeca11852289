/- What slices.ContainsFunc does at Number's test. -/
import Derived.Test.YteeieeoieagclaaZeros2
namespace Go.Proofs.Yteeieeoieagclaa
open Go.RowKit ZerosPlain
set_option linter.unusedVariables false

set_option maxRecDepth 100000 in
theorem test_any (x : Nat) (w : World) : Calls Try.prog 24 #[.int .u64 (x : Nat)] w fun e w' => e = .returned (.bool (decide (2 ≤ x))) ∧ w' = w := by
  go_enter Try.func24, Try.ntmps24
  go_wp2_with fail
  go_ret
  refine ⟨?_, rfl⟩
  apply ret_bool
  simp
  omega

set_option maxRecDepth 100000 in
set_option maxHeartbeats 2000000 in
theorem index_any (v : Value) (xs : List Nat) (w : World) (hv : NumsAt w v xs) :
    Calls Try.prog 26 #[v, .func (.func 24) #[] #[]] w fun e w' => ∃ k : Int, e = .returned (.int .i64 k) ∧ (0 ≤ k ↔ ∃ x ∈ xs, 2 ≤ x) ∧ w' = w := by
  have HT := Lib.hid (fun x => test_any x w)
  obtain ⟨a, cap, rfl, hm, hc⟩ := hv
  unfold maxLen at hm
  obtain ⟨n, hn⟩ : ∃ n, n = xs.length := ⟨_, rfl⟩
  rw [← hn] at hm ⊢
  have Hn := Lib.hid hn
  clear hn
  go_enter Try.func26, Try.ntmps26
  go_wp2
  go_loopw [8] (fun iv wr => ∃ i : Nat, iv = .int .i64 (i : Nat) ∧ i ≤ n ∧ Hid (∀ x ∈ xs.take i, x < 2) ∧ wr = w) (fun iv _ => n - (intOf iv).toNat)
  case atStart => exact ⟨0, rfl, Nat.zero_le _, by intro x hx; simp at hx, rfl⟩
  case round =>
    obtain ⟨i, rfl, hi, hall, rfl⟩ := hrel
    by_cases hlt : i < n
    · have hi2 : i < xs.length := by have := Hn.out; omega
      obtain ⟨x, rfl, hx⟩ := hc i hi2
      have hnext : xs.take (i + 1) = xs.take i ++ [xs[i]] := by rw [List.take_add_one, List.getElem?_eq_getElem hi2]; rfl
      have hmem : xs[i] ∈ xs := List.getElem_mem hi2
      have Hnext := Lib.hid hnext
      generalize xs[i] = c at hx hmem Hnext
      have Hmem := Lib.hid hmem
      have HTc := Lib.hid (HT.out c)
      clear hc hnext hmem HT
      by_cases hc2 : 2 ≤ c
      · have htr : decide (2 ≤ c) = true := by simpa using hc2
        rw [htr] at HTc
        have Hc2 := Lib.hid hc2
        clear hc2 htr
        go_wp2_with (first
          | (go_at_call 24; refine HTc.out.mono ?_; rintro e w1 ⟨rfl, rfl⟩)
          | fail)
        go_ret
        exact ⟨i, rfl, ⟨fun _ => ⟨c, Hmem.out, Hc2.out⟩, fun _ => by omega⟩, rfl⟩
      · have htr : decide (2 ≤ c) = false := by simpa using hc2
        rw [htr] at HTc
        have Hc2 : Hid (c < 2) := by show _ < _; omega
        clear hc2 htr
        go_wp2_with (first
          | (go_at_call 24; refine HTc.out.mono ?_; rintro e w1 ⟨rfl, rfl⟩)
          | fail)
        refine ⟨⟨i + 1, by rw [Int.natCast_add]; rfl, by omega, ?_, trivial⟩, by simp [intOf]; omega⟩
        intro y hy
        rw [Hnext.out] at hy
        rcases List.mem_append.1 hy with hy | hy
        · exact hall.out y hy
        · rw [List.mem_singleton.1 hy]; exact Hc2.out
    · clear hc HT
      go_wp2_with fail
      go_ret
      refine ⟨-1, rfl, ⟨fun h => by omega, fun ⟨x, hx, h2⟩ => ?_⟩, rfl⟩
      have h3 := hall.out x (by rw [List.take_of_length_le (by have := Hn.out; omega)]; exact hx)
      omega

set_option maxRecDepth 100000 in
theorem contains_any (v : Value) (xs : List Nat) (w : World) (hv : NumsAt w v xs) :
    Calls Try.prog 23 #[v, .func (.func 24) #[] #[]] w fun e w' => e = .returned (.bool (decide (∃ x ∈ xs, 2 ≤ x))) ∧ w' = w := by
  have HI := Lib.hid (index_any v xs w hv)
  clear hv
  go_enter Try.func23, Try.ntmps23
  go_wp2_with (first
    | (go_at_call 26; refine HI.out.mono ?_; rintro e w1 ⟨k, rfl, hk, rfl⟩; have Hk := Lib.hid hk; clear hk)
    | fail)
  go_ret
  refine ⟨ret_bool ?_, rfl⟩
  exact decide_eq_decide.2 Hk.out
end Go.Proofs.Yteeieeoieagclaa
