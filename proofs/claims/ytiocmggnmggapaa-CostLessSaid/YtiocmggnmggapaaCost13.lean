/- Lists put behind each other: slices.Grow, slices.Concat. -/
import Derived.Test.YtiocmggnmggapaaCost12
namespace Go.Proofs.Ytiocmggnmggapaa
open Go.RowKit CostPlain
set_option linter.unusedVariables false

theorem NAt0.src {w : World} {v : Value} {l : List Nat} (h : NAt0 w v l) : Src w v (ncells l) := by
  rcases h with ⟨rfl, rfl⟩ | ⟨g, cap, rfl, _, _, h4⟩
  · exact .inl ⟨rfl, rfl⟩
  · refine .inr ⟨⟨g, 0, none⟩, cap, by rw [ncells_length], fun j y hj => ?_⟩
    have hl : j < l.length := by
      rcases Nat.lt_or_ge j l.length with h1 | h1
      · exact h1
      · rw [List.getElem?_eq_none (by rw [ncells_length]; exact h1)] at hj; cases hj
    rw [add_plain, Nat.zero_add, h4 j hl]
    unfold ncells at hj
    rw [List.getElem?_map, List.getElem?_eq_getElem hl] at hj
    exact hj
theorem NAt0.len {w : World} {v : Value} {l : List Nat} (h : NAt0 w v l) : l.length ≤ 65536 := by
  rcases h with ⟨_, rfl⟩ | ⟨g, cap, _, _, h3, _⟩
  · simp
  · exact h3
theorem flatten_len_le (ls : List (List Nat)) (h : ∀ l ∈ ls, l.length ≤ 65536) : ls.flatten.length ≤ 65536 * ls.length := by
  induction ls with
  | nil => simp
  | cons a ls ih =>
    have h1 := h a List.mem_cons_self
    have h2 := ih (fun l hl => h l (List.mem_cons_of_mem _ hl))
    rw [List.flatten_cons, List.length_append, List.length_cons]
    omega
theorem take_getD {ls : List (List Nat)} {i : Nat} (h : i < ls.length) : ls.take (i + 1) = ls.take i ++ [ls.getD i []] := by
  rw [List.take_succ_eq_append_getElem h]; simp [List.getD, h]

theorem Owns.head {w : World} {B : Nat} {e : TypeId} {ao : Option Addr} {n cap : Nat} {xs : List Value} (h : Owns w B e (.slice ao n cap) xs) (hx : 1 ≤ xs.length) : Owns w B e (.slice ao 0 cap) [] := by
  rcases h.2 with ⟨_, h2⟩ | ⟨g, cap', cur, h1, h2, h3, h4, h5, h6, h7⟩
  · rw [h2] at hx; simp at hx
  · injection h1 with h1 h8 h9
    subst h1 h9
    exact ⟨rfl, .inr ⟨g, cap, cur, rfl, h2, h3, Nat.zero_le _, h5, h6, by simp⟩⟩
set_option maxRecDepth 100000 in
set_option maxHeartbeats 2000000 in
theorem grow_any (n : Nat) (hn : n ≤ 8589934592) (w : World) : Calls Try.prog 42 #[.slice none 0 0, .int .i64 (n : Nat)] w fun e w' => ∃ v, e = .returned v ∧ Owns w' w.heap.size 22 v [] ∧ Hid (w.grownBy w' none) := by
  rcases Nat.eq_zero_or_pos n with h0 | h0
  · subst h0
    go_enter Try.func42, Try.ntmps42
    go_wp2_with fail
    go_ret
    exact ⟨_, rfl, Owns.nil _ _ _, grown_self _ _⟩
  · have hn1 : 1 ≤ (n : Int) := by omega
    have hn2 : (n : Int) ≤ 8589934592 := by omega
    have hb1 : Hid ((([] : List Value).length + n) * 8 ≤ 140737488355328) := by show _ ≤ _; simp; omega
    have hb2 : Hid (([] : List Value).length + n ≤ maxLen) := by show _ ≤ _; simp [maxLen]; omega
    have HN : Hid (n = ([] : List Value).length + n) := by show _ = _; simp
    go_enter Try.func42, Try.ntmps42
    go_wp2_with (first
      | (at_builtin; refine wpList_zeros' rfl (.tmp 20) (.tmp 21) 34 3 rfl .i64 .i64 Try.underlying3 w.heap.size 22 (.int .u64 0) 8 elemNums rfl rfl _ [] rfl (Owns.nil _ _ _) n rfl hb1.out hb2.out (Nat.le_refl _) n HN.out ?_; intro ao cap w1 ho hg; have HO := Lib.hid ho; have HG := Lib.hid hg; clear ho hg)
      | fail)
    go_ret
    exact ⟨_, rfl, HO.out.head (by simp; omega), HG.out.grown⟩

set_option maxRecDepth 100000 in
set_option maxHeartbeats 4000000 in
theorem concat_any (g cap : Nat) (vs : List Value) (ls : List (List Nat)) (w : World) (hcap : ls.length ≤ cap) (hlen : ls.length ≤ 65540) (hc : ∀ j, j < ls.length → w.cell? ⟨g, j, none⟩ = some (vs.getD j undef)) (hn : ∀ j, j < ls.length → NAt0 w (vs.getD j undef) (ls.getD j [])) :
    Calls Try.prog 33 #[.slice (some ⟨g, 0, none⟩) ls.length cap] w fun e w' => ∃ v, e = .returned v ∧ Owns w' w.heap.size 22 v (ncells ls.flatten) ∧ ls.flatten.length ≤ 4295229440 ∧ Hid (w.grownBy w' none) := by
  have hmem : ∀ l ∈ ls, l.length ≤ 65536 := fun l hl => by
    obtain ⟨j, hj, rfl⟩ := List.getElem_of_mem hl
    have := (hn j hj).len
    rwa [show ls.getD j [] = ls[j] by simp [List.getD, hj]] at this
  have Hmt : Hid (∀ i, (ls.take i).flatten.length ≤ 4295229440) := fun i => by
    refine Nat.le_trans (flatten_len_le _ (fun l hl => hmem l (List.mem_of_mem_take hl))) ?_
    rw [List.length_take]
    have : min i ls.length ≤ 65540 := by omega
    omega
  have Hall : Hid (ls.flatten.length ≤ 4295229440) := by
    have := Hmt.out ls.length; rw [List.take_length] at this; exact this
  have Hc := Lib.hid hc
  have Hn := Lib.hid hn
  obtain ⟨N, hN⟩ : ∃ N, N = ls.length := ⟨_, rfl⟩
  rw [← hN] at hcap hlen ⊢
  have HN := Lib.hid hN
  have Hg := Lib.hid grow_any
  clear hc hn hN hmem
  go_enter Try.func33, Try.ntmps33
  go_wp2
  go_loop [3, 11] (fun sv iv => ∃ i s : Nat, iv = .int .i64 (i : Nat) ∧ i ≤ N ∧ sv = .int .i64 (s : Nat) ∧ Hid (s = (ls.take i).flatten.length)) (fun _ iv => N - (intOf iv).toNat)
  case atStart => exact ⟨0, 0, rfl, Nat.zero_le _, rfl, by show _ = _; simp⟩
  case round =>
    obtain ⟨i, s, rfl, hi, rfl, hs⟩ := hrel
    have hsb := Hmt.out i
    rw [← hs.out] at hsb
    by_cases hlt : i < N
    · have ci := Hc.out i (by rw [← HN.out]; exact hlt)
      obtain ⟨a, cc, e1, _⟩ := (Hn.out i (by rw [← HN.out]; exact hlt)).nums
      obtain ⟨n, hne⟩ : ∃ n, n = (ls.getD i []).length := ⟨_, rfl⟩
      have hsn : Hid (s + n = (ls.take (i + 1)).flatten.length) := by
        show _ = _
        rw [take_getD (by rw [← HN.out]; exact hlt), List.flatten_append, List.length_append, hs.out, hne]; simp
      have hsb2 := Hmt.out (i + 1)
      rw [← hsn.out] at hsb2
      rw [e1, ← hne] at ci
      have hii : (i : Int) < (N : Int) := by omega
      clear e1 hne
      go_wp2_with fail
      go_round
      case rel => exact ⟨i + 1, s + n, by go_num, by omega, by rw [Int.natCast_add], hsn⟩
      case measure => simp [intOf] <;> omega
    · obtain rfl : i = N := by omega
      go_wp2_with fail
      refine (Hg.out s (by omega) _).mono ?_
      rintro e w1 ⟨v, rfl, ho, hg⟩
      simp only []
      have HO0 : Hid (Owns w1 w.heap.size 22 v (ncells (ls.take 0).flatten)) := ho
      have HG0 := Lib.hid hg
      clear ho hg
      go_wp2_with fail
      go_loopw [6, 27] (fun ov iv wr => ∃ j : Nat, iv = .int .i64 (j : Nat) ∧ j ≤ i ∧ Hid (Owns wr w.heap.size 22 ov (ncells (ls.take j).flatten)) ∧ Hid (w.grownBy wr none)) (fun _ iv _ => i - (intOf iv).toNat)
      case atStart => exact ⟨0, rfl, Nat.zero_le _, HO0, HG0⟩
      case round =>
        clear HO0 HG0
        obtain ⟨j, rfl, hj, ho, hg⟩ := hrel
        by_cases hlt2 : j < i
        · have hjl : j < ls.length := by rw [← HN.out]; exact hlt2
          have cj := hg.out.cell (Hc.out j hjl) (by simp)
          have HS := Lib.hid ((Hn.out j hjl).grown hg.out).src
          have Htk : Hid ((ls.take (j + 1)).flatten = (ls.take j).flatten ++ ls.getD j []) := by show _ = _; rw [take_getD hjl, List.flatten_append]; simp
          have hb := Hmt.out (j + 1)
          rw [Htk.out, List.length_append] at hb
          obtain ⟨D, hD⟩ : ∃ D, D = (ls.take j).flatten := ⟨_, rfl⟩
          obtain ⟨l, hl⟩ : ∃ l, l = ls.getD j [] := ⟨_, rfl⟩
          rw [← hD, ← hl] at hb Htk
          rw [← hl] at HS
          rw [← hD] at ho
          obtain ⟨x, hx⟩ : ∃ x, x = vs.getD j undef := ⟨_, rfl⟩
          rw [← hx] at cj HS
          have Hb1 : Hid (((ncells D).length + (ncells l).length) * 8 ≤ 140737488355328) := by show _ ≤ _; rw [ncells_length, ncells_length]; omega
          have Hb2 : Hid ((ncells D).length + (ncells l).length ≤ maxLen) := by show _ ≤ _; rw [ncells_length, ncells_length]; unfold maxLen; omega
          have HBw := Lib.hid hg.out.size
          have hji : (j : Int) < (i : Int) := by omega
          clear hD hl hx hb
          go_wp2_with (first
            | (at_builtin; refine wpList_add rfl (.tmp 31) (.tmp 32) 34 rfl w.heap.size 22 (.int .u64 0) 8 elemNums _ (ncells D) rfl ho.out _ (ncells l) rfl HS.out (ncells_one l) Hb1.out Hb2.out HBw.out ?_; intro v2 w2 ho2 hg2; have HO2 := Lib.hid ho2; have HG2 := Lib.hid hg2; clear ho2 hg2)
            | fail)
          refine ⟨⟨j + 1, by rw [Int.natCast_add]; rfl, by omega, ?_, grown_bel ((bel_grown hg.out (Nat.le_refl _)).trans (HG2.out.below ho.out HBw.out)) none⟩, by simp [intOf] <;> omega⟩
          show Owns _ _ _ _ _
          rw [Htk.out, ncells_append]; exact HO2.out
        · obtain rfl : j = i := by omega
          go_wp2_with fail
          go_ret
          have e9 : ls.take j = ls := by rw [HN.out]; exact List.take_length
          refine ⟨_, rfl, ?_, Hall.out, hg⟩
          have h9 := ho.out
          rw [e9] at h9
          exact h9
end Go.Proofs.Ytiocmggnmggapaa
