/- What Number does at any digits, and the reference's; what Digits do. -/
import Derived.Test.YteeieeoieagclaaZeros5
namespace Go.Proofs.Yteeieeoieagclaa
open Go.RowKit ZerosPlain
set_option linter.unusedVariables false

theorem NumsAt.bel {w W : World} {a : Option Addr} {xs : List Nat} (h : ∀ i (hi : i < xs.length), ∃ x, a = some x ∧ w.cell? (x.add i) = some (.int .u64 (xs[i] : Nat))) (hb : Below w.heap.size w W) :
    ∀ i (hi : i < xs.length), ∃ x, a = some x ∧ W.cell? (x.add i) = some (.int .u64 (xs[i] : Nat)) := fun i hi => by
  obtain ⟨x, h4, h5⟩ := h i hi
  exact ⟨x, h4, (grown_bel hb none).cell h5 (by simp)⟩

set_option maxRecDepth 100000 in
theorem number_empty (v : Value) (w : World) (hv : NumsAt w v []) :
    Calls Try.prog 15 #[v] w fun e w' => e = .returned (.tuple #[.int .u64 0, .int .i64 7]) ∧ w' = w := by
  obtain ⟨a, cp, rfl, _, _⟩ := hv
  simp only [List.length_nil]
  go_enter Try.func15, Try.ntmps15
  go_wp2_with fail
  go_ret2
  exact ⟨rfl, rfl⟩
set_option maxRecDepth 100000 in
theorem number_bad (v : Value) (xs : List Nat) (w : World) (hv : NumsAt w v xs) (hne : 0 < xs.length) (h2 : ∃ x ∈ xs, 2 ≤ x) :
    Calls Try.prog 15 #[v] w fun e w' => e = .returned (.tuple #[.int .u64 0, .int .i64 7]) ∧ w' = w := by
  have HC := Lib.hid (contains_any v xs w hv)
  rw [decide_eq_true h2] at HC
  obtain ⟨a, cp, rfl, hm, hcc⟩ := hv
  clear h2 hm hcc
  generalize xs.length = n at *
  have hne' : ((n : Int) == 0) = false := by simp; omega
  go_enter Try.func15, Try.ntmps15
  go_wp2_with (first
    | (go_at_call 23; refine HC.out.mono ?_; rintro e w1 ⟨rfl, rfl⟩)
    | fail)
  go_ret2
  exact ⟨rfl, rfl⟩
theorem number_any (v : Value) (xs : List Nat) (w : World) (hv : NumsAt w v xs) :
    Calls Try.prog 15 #[v] w fun e w' => e = .returned (.tuple #[.int .u64 (numR xs).1, .int .i64 (numR xs).2]) ∧ Below w.heap.size w w' := by
  by_cases h0 : xs = []
  · subst h0
    refine (number_empty v w hv).mono ?_
    rintro e w' ⟨rfl, rfl⟩
    exact ⟨rfl, Below.refl _ _⟩
  · have hpos := List.length_pos_iff.2 h0
    by_cases h2 : ∃ x ∈ xs, 2 ≤ x
    · refine (number_bad v xs w hv hpos h2).mono ?_
      rintro e w' ⟨rfl, rfl⟩
      refine ⟨?_, Below.refl _ _⟩
      unfold numR
      rw [if_pos (.inr h2)]
      rfl
    · refine number_loop v xs w hv hpos fun x hx => ?_
      rcases Nat.lt_or_ge x 2 with h | h
      · exact h
      · exact absurd ⟨x, hx, h⟩ h2

set_option maxRecDepth 100000 in
set_option maxHeartbeats 2000000 in
theorem rnumber_full (v : Value) (xs : List Nat) (w : World) (hv : NumsAt w v xs) :
    Calls Try.prog 16 #[v] w fun e w' => e = .returned (.tuple #[.int .u64 (numR xs).1, .int .i64 (numR xs).2]) ∧ w' = w := by
  have HR : Hid ((∀ x ∈ xs, x < 2) → Calls Try.prog 21 #[v] w fun e w' => e = .returned (.int .u64 (cap (num xs) : Nat)) ∧ w' = w) := fun h => rnumber_any v xs w hv h
  have Hbad : Hid ((∃ x ∈ xs, 2 ≤ x) → numR xs = (0, 7)) := fun h => by unfold numR; rw [if_pos (.inr h)]
  have Hgood : Hid (0 < xs.length → (∀ x ∈ xs, x < 2) → (65536 < num xs → numR xs = (0, 8) ∧ cap (num xs) = 65537) ∧ (num xs ≤ 65536 → numR xs = (num xs, 0) ∧ cap (num xs) = num xs)) := fun h0 h2 => by
    have hnot : ¬ (xs = [] ∨ ∃ x ∈ xs, 2 ≤ x) := by
      rintro (h | ⟨x, hx, h⟩)
      · rw [h] at h0; simp at h0
      · have := h2 x hx; omega
    unfold numR cap
    refine ⟨fun h => ⟨by rw [if_neg hnot, if_pos h], by omega⟩, fun h => ⟨by rw [if_neg hnot, if_neg (by omega)], by omega⟩⟩
  have Hnil : Hid (xs.length = 0 → numR xs = (0, 7)) := fun h => by rw [List.length_eq_zero_iff.1 h]; rfl
  obtain ⟨a, cp, rfl, hm, hc⟩ := hv
  unfold maxLen at hm
  have Hc := Lib.hid hc
  clear hc
  obtain ⟨n, hn⟩ : ∃ n, n = xs.length := ⟨_, rfl⟩
  rw [← hn] at hm HR Hnil Hgood ⊢
  have hm' : (n : Int) ≤ 9223372036854775807 := by omega
  have Hn := Lib.hid hn
  clear hm hn
  by_cases h0 : n = 0
  · subst h0
    go_enter Try.func16, Try.ntmps16
    go_wp2_with fail
    go_ret2
    rw [Hnil.out (by trivial)]
    exact ⟨rfl, rfl⟩
  · have hne' : ((n : Int) == 0) = false := by simp; omega
    have hpos : Hid (0 < n) := Nat.pos_of_ne_zero h0
    clear h0 Hnil
    go_enter Try.func16, Try.ntmps16
    go_wp2_with fail
    go_loopw [12] (fun iv wr => ∃ i : Nat, iv = .int .i64 (i : Nat) ∧ i ≤ n ∧ Hid (∀ x ∈ xs.take i, x < 2) ∧ wr = w) (fun iv _ => n - (intOf iv).toNat)
    case atStart => exact ⟨0, rfl, Nat.zero_le _, fun x hx => by simp at hx, rfl⟩
    case round =>
      obtain ⟨i, rfl, hi, hall, rfl⟩ := hrel
      by_cases hlt : i < n
      · have hiL : i < xs.length := by have := Hn.out; omega
        obtain ⟨x, rfl, hx⟩ := Hc.out i hiL
        have hnext : xs.take (i + 1) = xs.take i ++ [xs[i]] := by rw [List.take_add_one, List.getElem?_eq_getElem hiL]; rfl
        have hmem : xs[i] ∈ xs := List.getElem_mem hiL
        have Hnext := Lib.hid hnext
        generalize xs[i] = c at hx hmem Hnext
        have Hmem := Lib.hid hmem
        clear hnext hmem hiL Hc
        by_cases hc2 : 2 ≤ c
        · go_wp2_with fail
          go_ret2
          rw [Hbad.out ⟨c, Hmem.out, hc2⟩]
          exact ⟨rfl, rfl⟩
        · go_wp2_with fail
          refine ⟨⟨i + 1, by rw [Int.natCast_add]; rfl, by omega, ?_, trivial⟩, by simp [intOf]; omega⟩
          intro y hy
          rw [Hnext.out] at hy
          rcases List.mem_append.1 hy with hy | hy
          · exact hall.out y hy
          · rw [List.mem_singleton.1 hy]; omega
      · have hin : i = n := by omega
        have htk : xs.take i = xs := List.take_of_length_le (by have := Hn.out; omega)
        rw [htk] at hall
        have HR2 := Lib.hid (HR.out hall.out)
        have HG := Lib.hid (Hgood.out hpos.out hall.out)
        clear hin htk HR Hgood
        by_cases hbig : 65536 < num xs
        · have h8 := HG.out.1 hbig
          rw [h8.2] at HR2
          have H8 := Lib.hid h8.1
          clear h8 HG hbig
          go_wp2_with (first
            | (go_at_call 21; refine HR2.out.mono ?_; rintro e w1 ⟨rfl, rfl⟩)
            | fail)
          go_ret2
          rw [H8.out]
          exact ⟨rfl, rfl⟩
        · have h8 := HG.out.2 (by omega)
          rw [h8.2] at HR2
          have H8 := Lib.hid h8.1
          obtain ⟨q, hq⟩ : ∃ q, q = num xs := ⟨_, rfl⟩
          rw [← hq] at HR2 H8 hbig
          clear h8 HG hq
          go_wp2_with (first
            | (go_at_call 21; refine HR2.out.mono ?_; rintro e w1 ⟨rfl, rfl⟩)
            | fail)
          go_ret2
          rw [H8.out]
          exact ⟨rfl, rfl⟩

/-! ### Digits -/
set_option maxRecDepth 100000 in
set_option maxHeartbeats 1000000 in
theorem digits_full (n : Nat) (w : World) (hn : n < 18446744073709551616) :
    Calls Try.prog 13 #[.int .u64 (n : Nat)] w fun e w' => ∃ v, e = .returned (.tuple #[v, .int .i64 (digR n).2]) ∧ NumsAt w' v (digR n).1 ∧ Below w.heap.size w w' := by
  by_cases h : n < 1 ∨ 65536 < n
  · have e : digR n = ([], 1) := by unfold digR; rw [if_pos h]
    rw [e]
    go_enter Try.func13, Try.ntmps13
    rcases Nat.lt_or_ge n 1 with h1 | h1
    · clear h e
      go_wp2_with fail
      go_ret2
      exact ⟨_, rfl, ⟨none, 0, rfl, Nat.zero_le _, fun i hi => by simp at hi⟩, Below.refl _ _⟩
    · have h2 : 65536 < n := by omega
      have h3 : ¬ n < 1 := by omega
      clear h e
      go_wp2_with fail
      go_ret2
      exact ⟨_, rfl, ⟨none, 0, rfl, Nat.zero_le _, fun i hi => by simp at hi⟩, Below.refl _ _⟩
  · have e : digR n = (dg n, 0) := by unfold digR; rw [if_neg h]
    rw [e]
    have h1 : 1 ≤ n := by omega
    have h2 : n ≤ 65536 := by omega
    have HD := Lib.hid (digits_any w.heap.size (.slice none 0 0) [] n w (Owns.nil _ _ _) (Nat.le_refl _) (by simp; omega) (by omega))
    clear h e
    go_enter Try.func13, Try.ntmps13
    go_wp2_with (first
      | (go_at_call 17; refine HD.out.mono ?_; rintro e w1 ⟨v', rfl, ho, hb, _⟩; have Ho := Lib.hid ho; have Hb := Lib.hid hb; clear ho hb)
      | fail)
    go_ret2
    refine ⟨v', rfl, NumsAt.of_owns (B := w.heap.size) Ho.out ?_, Hb.out⟩
    have := dg_length_le n
    unfold maxLen
    omega
set_option maxRecDepth 100000 in
set_option maxHeartbeats 1000000 in
theorem rdigits_full (n : Nat) (w : World) (hn : n < 18446744073709551616) :
    Calls Try.prog 14 #[.int .u64 (n : Nat)] w fun e w' => ∃ v, e = .returned (.tuple #[v, .int .i64 (digR n).2]) ∧ NumsAt w' v (digR n).1 ∧ Below w.heap.size w w' := by
  by_cases h : n < 1 ∨ 65536 < n
  · have e : digR n = ([], 1) := by unfold digR; rw [if_pos h]
    rw [e]
    go_enter Try.func14, Try.ntmps14
    rcases Nat.lt_or_ge n 1 with h1 | h1
    · clear h e
      go_wp2_with fail
      go_ret2
      exact ⟨_, rfl, ⟨none, 0, rfl, Nat.zero_le _, fun i hi => by simp at hi⟩, Below.refl _ _⟩
    · have h2 : 65536 < n := by omega
      have h3 : ¬ n < 1 := by omega
      clear h e
      go_wp2_with fail
      go_ret2
      exact ⟨_, rfl, ⟨none, 0, rfl, Nat.zero_le _, fun i hi => by simp at hi⟩, Below.refl _ _⟩
  · have e : digR n = (dg n, 0) := by unfold digR; rw [if_neg h]
    rw [e]
    have h1 : 1 ≤ n := by omega
    have h2 : n ≤ 65536 := by omega
    have HD := Lib.hid (rdigits_any w.heap.size n w (Nat.le_refl _) (by omega))
    clear h e
    go_enter Try.func14, Try.ntmps14
    go_wp2_with (first
      | (go_at_call 18; refine HD.out.mono ?_; rintro e w1 ⟨v', rfl, ho, hb, _⟩; have Ho := Lib.hid ho; have Hb := Lib.hid hb; clear ho hb)
      | fail)
    go_ret2
    refine ⟨v', rfl, NumsAt.of_owns (B := w.heap.size) Ho.out ?_, Hb.out⟩
    have := dg_length_le n
    unfold maxLen
    omega
end Go.Proofs.Yteeieeoieagclaa
