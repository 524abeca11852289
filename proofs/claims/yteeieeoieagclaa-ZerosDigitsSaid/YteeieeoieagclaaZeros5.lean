/- What Number does, the program's and the reference's. -/
import Derived.Test.YteeieeoieagclaaZeros4
import Derived.Test.YteeieeoieagclaaKit2
import Derived.Test.YteeieeoieagclaaZerosPlain2
import Derived.Outline
namespace Go.Proofs.Yteeieeoieagclaa
open Go.RowKit ZerosPlain
set_option linter.unusedVariables false

theorem nextBy_lt (b : Nat) : nextBy b < 18446744073709551616 := by unfold nextBy; omega
theorem Run.le {l : List Nat} {n b : Nat} (h : Run l n b) : n ≤ 65537 := by
  rcases Nat.lt_or_ge 65536 (num l) with h1 | h1
  · rw [h.big h1]; omega
  · have := (h.small h1).1; omega

theorem add_state (g o : Nat) (cs : Array Value) (t : TypeId) (l : List Nat) (n b d : Nat) (w : World) (hb : w.heap[g]? = some (.cells cs t (0, 0))) (h1 : cs[o]? = some (.int .u64 (n : Nat))) (h2 : cs[o + 1]? = some (.int .u64 (b : Nat)))
    (hr : Run l n b) (hd : d < 2) (hb64 : b < 18446744073709551616) :
    Calls Try.prog 25 #[.pointer (some ⟨g, o, none⟩), .int .u64 (d : Nat)] w fun e w' => ∃ n' b' : Nat, e = .returned (.bool (decide (num (l ++ [d]) ≤ 65536))) ∧ b' < 18446744073709551616 ∧
      (num (l ++ [d]) ≤ 65536 → Run (l ++ [d]) n' b') ∧ (65536 < num (l ++ [d]) → Run (l ++ [d]) 65537 b') ∧
      w'.heap[g]? = some (.cells ((cs.setIfInBounds (o + 1) (.int .u64 (b' : Nat))).setIfInBounds o (.int .u64 (n' : Nat))) t (0, 0)) ∧ w.grownBy w' (some g) := by
  refine (add_run g o cs t n b d w hb h1 h2 (Run.le hr) hd hb64).mono ?_
  rintro e w' ⟨n', hn, hbl, hg⟩
  obtain ⟨s1, s2⟩ := hr.step (d := d)
  refine ⟨n', nextBy b, ?_, nextBy_lt b, ?_, ?_, hbl, hg⟩
  · by_cases h : 65536 < nextBy b
    · rw [if_pos h] at hn
      rw [hn.2, decide_eq_false (by have := (s1 h).2; omega)]
    · rw [if_neg h] at hn
      obtain ⟨s3, s4, s5⟩ := s2 (by omega)
      rw [hn.2]
      by_cases h6 : n' ≤ 65536
      · have := (s4 (by omega)).2
        rw [decide_eq_true h6, decide_eq_true this]
      · have := (s5 (by omega)).2
        rw [decide_eq_false h6, decide_eq_false (by omega)]
  · intro h0
    by_cases h : 65536 < nextBy b
    · have := (s1 h).2; omega
    · rw [if_neg h] at hn
      obtain ⟨s3, s4, s5⟩ := s2 (by omega)
      by_cases h6 : n' ≤ 65536
      · have := (s4 (by omega)).1
        rw [hn.1]; exact this
      · have := (s5 (by omega)).2
        omega
  · intro h0
    by_cases h : 65536 < nextBy b
    · exact (s1 h).1
    · rw [if_neg h] at hn
      obtain ⟨s3, s4, s5⟩ := s2 (by omega)
      by_cases h6 : n' ≤ 65536
      · have := (s4 (by omega)).2
        omega
      · exact (s5 (by omega)).1

theorem num_take_le (xs : List Nat) (i : Nat) : num (xs.take i) ≤ num xs := by
  have h := num_append (xs.take i) (xs.drop i)
  rw [List.take_append_drop] at h
  omega

set_option maxRecDepth 100000 in
set_option maxHeartbeats 2000000 in
theorem number_loop (v : Value) (xs : List Nat) (w : World) (hv : NumsAt w v xs) (hne : 0 < xs.length) (h2 : ∀ x ∈ xs, x < 2) :
    Calls Try.prog 15 #[v] w fun e w' => e = .returned (.tuple #[.int .u64 (numR xs).1, .int .i64 (numR xs).2]) ∧ Below w.heap.size w w' := by
  have hno : decide (∃ x ∈ xs, 2 ≤ x) = false := by
    apply decide_eq_false
    rintro ⟨x, hx, h⟩
    have := h2 x hx
    omega
  have hnot : ¬ (xs = [] ∨ ∃ x ∈ xs, 2 ≤ x) := by
    rintro (h | h)
    · rw [h] at hne; simp at hne
    · simp only [decide_eq_false_iff_not] at hno; exact hno h
  have Hbig : Hid (65536 < num xs → numR xs = (0, 8)) := fun h => by unfold numR; rw [if_neg hnot, if_pos h]
  have Hsm : Hid (num xs ≤ 65536 → numR xs = (num xs, 0)) := fun h => by unfold numR; rw [if_neg hnot, if_neg (by omega)]
  have HC := Lib.hid (contains_any v xs w hv)
  rw [hno] at HC
  obtain ⟨a, cp, rfl, hm, hc0⟩ := hv
  have Hc : Hid (∀ W : World, Below w.heap.size w W → ∀ i (hi : i < xs.length), ∃ x, a = some x ∧ W.cell? (x.add i) = some (.int .u64 (xs[i] : Nat))) := fun W hb i hi => by
    obtain ⟨x, h4, h5⟩ := hc0 i hi
    exact ⟨x, h4, (show w.grownBy W none from ⟨hb.os, hb.tape, hb.output, hb.size, fun k hk _ => hb.block k hk⟩).cell h5 (by simp)⟩
  unfold maxLen at hm
  obtain ⟨n, hn⟩ : ∃ n, n = xs.length := ⟨_, rfl⟩
  rw [← hn] at hm hne HC ⊢
  have hm' : (n : Int) ≤ 9223372036854775807 := by omega
  have hne' : ((n : Int) == 0) = false := by simp; omega
  clear hm hno hnot hc0
  have Hn := Lib.hid hn
  have H2 := Lib.hid h2
  clear hn h2
  go_enter Try.func15, Try.ntmps15
  go_wp2_with (first
    | (go_at_call 23; refine HC.out.mono ?_; rintro e w1 ⟨rfl, rfl⟩)
    | fail)
  have hP := heap_alloc_new w1 (.cells #[.int .u64 0, .int .u64 0] 40)
  have hbl := (Below.refl w1.heap.size w1).alloc (Nat.le_refl _) (.cells #[.int .u64 0, .int .u64 0] 40)
  generalize w1.alloc (.cells #[.int .u64 0, .int .u64 0] 40) = w2 at hP hbl ⊢
  obtain ⟨P, hPe⟩ : ∃ P, P = w1.heap.size := ⟨_, rfl⟩
  have HP : Hid (w1.heap.size ≤ P) := by show _ ≤ _; omega
  rw [← hPe] at hP ⊢
  have Hbl : Hid (Below w1.heap.size w1 w2) := hbl
  clear hPe hbl
  go_loopw [16] (fun iv wr => ∃ i m b : Nat, iv = .int .i64 (i : Nat) ∧ i ≤ n ∧ b < 18446744073709551616 ∧ Hid (Run (xs.take i) m b ∧ num (xs.take i) ≤ 65536) ∧ wr.heap[P]? = some (.cells #[.int .u64 (m : Nat), .int .u64 (b : Nat)] 40 (0, 0)) ∧ Hid (Below w1.heap.size w1 wr)) (fun iv _ => n - (intOf iv).toNat)
  case atStart => exact ⟨0, 0, 0, rfl, Nat.zero_le _, by omega, ⟨Run.nil, by simp [num]⟩, hP, Hbl⟩
  case round =>
    clear hP Hbl
    obtain ⟨i, m, b, rfl, hi, hb64, hrun, hPr, hbr⟩ := hrel
    by_cases hlt : i < n
    · have hiL : i < xs.length := by have := Hn.out; omega
      obtain ⟨x, rfl, hx⟩ := Hc.out wr hbr.out i hiL
      have hx2 := H2.out xs[i] (List.getElem_mem hiL)
      have hnext : xs.take (i + 1) = xs.take i ++ [xs[i]] := by rw [List.take_add_one, List.getElem?_eq_getElem hiL]; rfl
      have Hnext := Lib.hid hnext
      have HA2 := Lib.hid (add_state P 0 #[.int .u64 (m : Nat), .int .u64 (b : Nat)] 40 (xs.take i) m b (xs[i]'hiL) wr hPr rfl rfl hrun.out.1 hx2 hb64)
      generalize xs[i] = c at hx hx2 Hnext HA2
      clear hnext hiL Hc
      by_cases hsm : num (xs.take i ++ [c]) ≤ 65536
      · have e : decide (num (xs.take i ++ [c]) ≤ 65536) = true := decide_eq_true hsm
        rw [e] at HA2
        have Hsm2 := Lib.hid hsm
        clear e hsm
        go_wp2_with (first
          | (go_at_call 25; refine HA2.out.mono ?_; rintro e w3 ⟨m', b', rfl, hb', hr', _, hbl', hg'⟩; have Hr' := Lib.hid hr'; have Hbl' := Lib.hid hbl'; have Hg' := Lib.hid hg'; clear hr' hbl' hg')
          | fail)
        exact ⟨⟨i + 1, m', b', by rw [Int.natCast_add]; rfl, by omega, hb', by show _ ∧ _; rw [Hnext.out]; exact ⟨Hr'.out Hsm2.out, Hsm2.out⟩, Hbl'.out, hbr.out.trans (below_grown Hg'.out HP.out hbr.out.size)⟩, by simp [intOf]; omega⟩
      · have e : decide (num (xs.take i ++ [c]) ≤ 65536) = false := decide_eq_false hsm
        rw [e] at HA2
        have Hsm2 := Lib.hid hsm
        clear e hsm
        go_wp2_with (first
          | (go_at_call 25; refine HA2.out.mono ?_; rintro e w3 ⟨m', b', rfl, hb', _, _, hbl', hg'⟩; have Hbl' := Lib.hid hbl'; have Hg' := Lib.hid hg'; clear hbl' hg')
          | fail)
        go_ret2
        have h := num_take_le xs (i + 1)
        rw [Hnext.out] at h
        rw [Hbig.out (by have := Hsm2.out; omega)]
        exact ⟨rfl, hbr.out.trans (below_grown Hg'.out HP.out hbr.out.size)⟩
    · have hin : i = n := by omega
      have htk : xs.take i = xs := List.take_of_length_le (by have := Hn.out; omega)
      rw [htk] at hrun
      have hs := (hrun.out.1.small hrun.out.2).1
      have e := Hsm.out hrun.out.2
      rw [← hs] at e
      have He := Lib.hid e
      obtain ⟨d1, d2, d3, d4⟩ := row2 hPr
      clear hin htk hs e Hc hPr
      go_wp2_with fail
      go_ret2
      rw [He.out]
      exact ⟨rfl, hbr.out⟩
end Go.Proofs.Yteeieeoieagclaa
