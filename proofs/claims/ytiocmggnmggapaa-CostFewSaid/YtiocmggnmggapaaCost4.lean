/- The levels' numbers; the records on the way. -/
import Derived.Test.YtiocmggnmggapaaCost3
namespace Go.Proofs.Ytiocmggnmggapaa
open Go.RowKit CostPlain
set_option linter.unusedVariables false

def lvL (b : Int) (c : Nat) : List Nat := if lvC b c = 0 then lvs (bs b) c else []
theorem lvC_ok {b : Int} {c : Nat} (h : lvC b c = 0) : 24 ≤ b ∧ b ≤ 256 ∧ c ≤ 65536 := by
  have h1 : ¬ b < 24 := fun e => by unfold lvC at h; rw [if_pos e] at h; exact absurd h (by decide)
  have h2 : ¬ (256 < b ∨ 65536 < c) := fun e => by unfold lvC at h; rw [if_neg h1, if_pos e] at h; exact absurd h (by decide)
  omega
theorem lvs_stop {B c : Nat} (h : c ≤ B) : lvs B c = [c] := by rw [lvs, dif_neg (by omega)]
theorem lvs_step {B c : Nat} (h : B < c) (hB : 25 ≤ B) : lvs B c = c :: lvs B (nm c) := by rw [lvs, dif_pos ⟨h, by omega⟩]
theorem lvs_le (B c : Nat) : ∀ x ∈ lvs B c, x ≤ c := by
  induction c using Nat.strongRecOn with
  | _ c ih =>
    intro x hx
    rw [lvs] at hx
    split at hx
    · rename_i h
      rcases List.mem_cons.1 hx with rfl | hx
      · exact Nat.le_refl _
      · have h1 := nm_lt h.2
        have := ih _ h1 x hx
        omega
    · simp at hx; omega
theorem need_ok (m : Nat) (h : m ≤ 65536) : nmC m = 0 ∧ nmN m = nm m := by
  have e1 : nmC m = 0 := by unfold nmC; rw [if_neg (by omega)]
  exact ⟨e1, by unfold nmN; rw [if_pos e1]⟩

theorem Owns.len_cap {w : World} {B : Nat} {e : TypeId} {g n cap : Nat} {xs : List Value} (h : Owns w B e (.slice (some ⟨g, 0, none⟩) n cap) xs) : xs.length ≤ cap := by
  rcases h.shape with ⟨h1, _⟩ | ⟨g', cap', h1, _, _, h2, _⟩
  · cases h1
  · injection h1 with _ _ h1
    rw [h1]; exact h2
set_option maxRecDepth 100000 in
set_option maxHeartbeats 4000000 in
theorem clevels_any (b : Int) (c : Nat) (hc : c < 18446744073709551616) (w : World) : Calls Try.prog 15 #[.int .i64 b, .int .u64 (c : Nat)] w fun e w' => ∃ v, e = .returned (.tuple #[v, .int .i64 (lvC b c)]) ∧ NumsAt w' v (lvL b c) ∧ (lvC b c = 0 → ∃ g cap, v = .slice (some ⟨g, 0, none⟩) (lvL b c).length cap ∧ (lvL b c).length ≤ cap) ∧ Hid (w.grownBy w' none) := by
  have HL := fun w => levels_any b c hc w
  by_cases h : lvC b c = 0
  · obtain ⟨h1, h2, h3⟩ := lvC_ok h
    have e1 : lvN b c = lvn (bs b) c := by unfold lvN; rw [if_pos h]
    have e2 : lvL b c = lvs (bs b) c := by unfold lvL; rw [if_pos h]
    obtain ⟨hB, hB2, _⟩ := bs_ok h1 h2
    have hN := lvn_le (bs b) c
    have hlen := lvs_length (bs b) c
    rw [h, e1] at HL
    rw [h, e2]
    obtain ⟨B, hBe⟩ : ∃ B, B = bs b := ⟨_, rfl⟩
    rw [← hBe] at HL hB hN hlen ⊢
    obtain ⟨N, hNe⟩ : ∃ N, N = lvn B c := ⟨_, rfl⟩
    rw [← hNe] at HL hN hlen
    obtain ⟨L, hL⟩ : ∃ L, L = lvs B c := ⟨_, rfl⟩
    rw [← hL] at hlen ⊢
    have HLv := Lib.hid HL
    have HL0 : Hid ([] ++ lvs B c = L) := hL.symm
    have Hlen := Lib.hid hlen
    have Hns := Lib.hid (fun w m (hm : m ≤ 65536) => nneed_any m (by omega) w)
    have hN8 : (N : Int) ≤ 65536 := by omega
    obtain ⟨i0, hi0, hz0, hz1, hz2⟩ := info_parts elemNums.info
    clear e1 e2 HL hBe hNe hL h hlen hB2
    go_enter Try.func15, Try.ntmps15
    go_wp2_with (first
      | (go_at_call 24; refine (HLv.out w).mono ?_; rintro e w1 ⟨rfl, hw1⟩; obtain rfl : w = w1 := hw1.symm)
      | (at_make; refine wpList_make_own w rfl _ _ 34 rfl w.heap.size 22 i0 _ 1 Try.underlying34 hi0 hz0 hz1 .i64 .i64 _ (N + 1) rfl rfl (by omega) (by rw [hz2]; omega) (by unfold maxLen; omega) (Nat.le_refl _) ?_; intro w1 hown1 hgrow1)
      | fail)
    have HO1 : Hid (Owns w1 w.heap.size 22 (.slice (some ⟨w.heap.size, 0, none⟩) 0 (N + 1)) (ncells [])) := hown1
    have HG1 := Lib.hid hgrow1
    clear hown1 hgrow1 hi0 hz0 hz1 hz2
    go_loopw [1, 8, 22] (fun cv ov iv wr => ∃ (m k : Nat) (D : List Nat), cv = .int .u64 (m : Nat) ∧ iv = .int .i64 (k : Nat) ∧ k ≤ N ∧ m ≤ c ∧ D.length = k ∧ Hid (D ++ lvs B m = L) ∧ Hid (Owns wr w.heap.size 22 ov (ncells D)) ∧ Hid (w.grownBy wr none)) (fun _ _ iv _ => N - (intOf iv).toNat)
    case atStart => exact ⟨c, 0, [], rfl, rfl, Nat.zero_le _, Nat.le_refl _, rfl, HL0, HO1, HG1⟩
    case round =>
      clear HO1 HG1 HL0
      obtain ⟨m, k, D, rfl, rfl, hk, hm, hD, hl, ho, hg⟩ := hrel
      have hlv : k + lvn B m = N := by
        have h1 := congrArg List.length hl.out
        have h2 := Hlen.out
        rw [List.length_append, lvs_length] at h1
        omega
      have HBw := Lib.hid hg.out.size
      have Hl1 : Hid (((ncells D).length + 1) * 8 ≤ 140737488355328) := by show _ ≤ _; rw [ncells_length]; omega
      have Hl2 : Hid ((ncells D).length + 1 ≤ maxLen) := by show _ ≤ _; rw [ncells_length]; unfold maxLen; omega
      by_cases hlt : k < N
      · have hBm : B < m := by
          rcases Nat.lt_or_ge B m with h | h
          · exact h
          · rw [lvn_stop h] at hlv; omega
        obtain ⟨n1, n2⟩ := need_ok m (by omega)
        have HN := fun w => Hns.out w m (by omega)
        rw [n1, n2] at HN
        have hq := nm_le (c := m)
        have Hl3 : Hid ((D ++ [m]) ++ lvs B (nm m) = L) := by show _ = _; rw [← hl.out, lvs_step hBm hB]; simp
        obtain ⟨q, hqe⟩ : ∃ q, q = nm m := ⟨_, rfl⟩
        rw [← hqe] at HN hq Hl3
        have HN' := Lib.hid HN
        have hki : (k : Int) < (N : Int) := by omega
        clear HN hqe n1 n2 hl hlv hBm
        go_wp2_with (first
          | (at_builtin; refine wpList_add1 rfl (.tmp 24) (.tmp 26) 34 rfl w.heap.size 22 (.int .u64 0) 8 elemNums _ (ncells D) rfl ho.out (.int .u64 (m : Nat)) rfl rfl Hl1.out Hl2.out HBw.out ?_; intro g cap w2 ho2 hg2; have HO2 := Lib.hid ho2; have HG2 := Lib.hid hg2; clear ho2 hg2)
          | (go_at_call 35; refine (HN'.out w2).mono ?_; rintro e w3 ⟨rfl, hw3⟩; obtain rfl : w2 = w3 := hw3.symm)
          | fail)
        refine ⟨⟨q, k + 1, D ++ [m], rfl, by rw [Int.natCast_add]; rfl, by omega, by omega, by simp [hD], Hl3, ?_, grown_bel ((bel_grown hg.out (Nat.le_refl _)).trans (HG2.out.below ho.out HBw.out)) none⟩, by simp [intOf] <;> omega⟩
        show Owns _ _ _ _ _
        rw [ncells_append]; exact HO2.out
      · obtain rfl : k = N := by omega
        have hm1 : lvs B m = [m] := by
          rcases Nat.lt_or_ge B m with h | h
          · rw [lvn_step h hB] at hlv; omega
          · exact lvs_stop h
        have HlE : Hid (D ++ [m] = L) := by show _ = _; rw [← hm1]; exact hl.out
        clear hl hlv hm1
        go_wp2_with (first
          | (at_builtin; refine wpList_add1 rfl (.tmp 34) (.tmp 36) 34 rfl w.heap.size 22 (.int .u64 0) 8 elemNums _ (ncells D) rfl ho.out (.int .u64 (m : Nat)) rfl rfl Hl1.out Hl2.out HBw.out ?_; intro g cap w2 ho2 hg2; have HO2 := Lib.hid ho2; have HG2 := Lib.hid hg2; clear ho2 hg2)
          | fail)
        go_ret2
        refine ⟨_, rfl, ?_, fun _ => ⟨g, cap, ?_, ?_⟩, grown_bel ((bel_grown hg.out (Nat.le_refl _)).trans (HG2.out.below ho.out HBw.out)) none⟩
        · rw [← HlE.out]
          refine NumsAt.of_owns (B := w.heap.size) ?_ (by rw [List.length_append]; simp [maxLen]; omega)
          rw [ncells_append]; exact HO2.out
        · rw [← HlE.out, List.length_append, ncells_length]; rfl
        · have := HO2.out.len_cap; rw [← HlE.out]; simpa [ncells_length] using this
  · have e2 : lvL b c = [] := by unfold lvL; rw [if_neg h]
    rw [e2]
    have hb : (lvC b c == 0) = false := by simpa using h
    have HL' := Lib.hid HL
    clear HL
    go_enter Try.func15, Try.ntmps15
    go_wp2_with (first | (go_at_call 24; refine (HL'.out w).mono ?_; rintro e w1 ⟨rfl, hw1⟩; obtain rfl : w = w1 := hw1.symm) | fail)
    go_ret2
    exact ⟨_, rfl, ⟨none, 0, rfl, Nat.zero_le _, fun i hi => by simp at hi⟩, fun e => absurd e h, grown_self _ _⟩

set_option maxRecDepth 100000 in
set_option maxHeartbeats 4000000 in
theorem rclevels_any (b : Int) (c : Nat) (hc : c < 18446744073709551616) (w : World) : Calls Try.prog 16 #[.int .i64 b, .int .u64 (c : Nat)] w fun e w' => ∃ v, e = .returned (.tuple #[v, .int .i64 (lvC b c)]) ∧ NumsAt w' v (lvL b c) ∧ (lvC b c = 0 → ∃ g cap, v = .slice (some ⟨g, 0, none⟩) (lvL b c).length cap ∧ (lvL b c).length ≤ cap) ∧ Hid (w.grownBy w' none) := by
  have HL := fun w => rlevels_any b c hc w
  by_cases h : lvC b c = 0
  · obtain ⟨h1, h2, h3⟩ := lvC_ok h
    have e1 : lvN b c = lvn (bs b) c := by unfold lvN; rw [if_pos h]
    have e2 : lvL b c = lvs (bs b) c := by unfold lvL; rw [if_pos h]
    obtain ⟨hB, hB2, _⟩ := bs_ok h1 h2
    have hN := lvn_le (bs b) c
    have hlen := lvs_length (bs b) c
    rw [h, e1] at HL
    rw [h, e2]
    obtain ⟨B, hBe⟩ : ∃ B, B = bs b := ⟨_, rfl⟩
    rw [← hBe] at HL hB hN hlen ⊢
    obtain ⟨N, hNe⟩ : ∃ N, N = lvn B c := ⟨_, rfl⟩
    rw [← hNe] at HL hN hlen
    obtain ⟨L, hL⟩ : ∃ L, L = lvs B c := ⟨_, rfl⟩
    rw [← hL] at hlen ⊢
    have HLv := Lib.hid HL
    have HL0 : Hid ([] ++ lvs B c = L) := hL.symm
    have Hlen := Lib.hid hlen
    have Hns := Lib.hid (fun w m (hm : m ≤ 65536) => rnneed_any m (by omega) w)
    have hN8 : (N : Int) ≤ 65536 := by omega
    clear e1 e2 HL hBe hNe hL h hlen hB2
    go_enter Try.func16, Try.ntmps16
    go_wp2_with (first
      | (go_at_call 36; refine (HLv.out w).mono ?_; rintro e w1 ⟨rfl, hw1⟩; obtain rfl : w = w1 := hw1.symm)
      | fail)
    have HO1 : Hid (Owns (w.alloc (.cells #[.int .u64 (c : Nat)] 22)) w.heap.size 22 (.slice (some ⟨w.heap.size, 0, none⟩) 1 1) (ncells ([] ++ [c]))) := World.ownsRow_lit w #[.int .u64 (c : Nat)] 1 (Nat.le_refl _) (by decide) rfl
    have HG1 := Lib.hid (World.grownBy_alloc w (.cells #[.int .u64 (c : Nat)] 22) none)
    generalize w.alloc (.cells #[.int .u64 (c : Nat)] 22) = w1 at HO1 HG1 ⊢
    go_loopw [1, 8, 9] (fun cv ov iv wr => ∃ (m k g cap : Nat) (D : List Nat), cv = .int .u64 (m : Nat) ∧ iv = .int .i64 (k : Nat) ∧ k ≤ N ∧ m ≤ c ∧ D.length = k ∧ ov = .slice (some ⟨g, 0, none⟩) (k + 1) cap ∧ Hid (D ++ lvs B m = L) ∧ Hid (Owns wr w.heap.size 22 ov (ncells (D ++ [m]))) ∧ Hid (w.grownBy wr none)) (fun _ _ iv _ => N - (intOf iv).toNat)
    case atStart => exact ⟨c, 0, _, 1, [], rfl, rfl, Nat.zero_le _, Nat.le_refl _, rfl, rfl, HL0, HO1, HG1⟩
    case round =>
      clear HO1 HG1 HL0
      obtain ⟨m, k, g, cap, D, rfl, rfl, hk, hm, hD, rfl, hl, ho, hg⟩ := hrel
      have hlv : k + lvn B m = N := by
        have h1 := congrArg List.length hl.out
        have h2 := Hlen.out
        rw [List.length_append, lvs_length] at h1
        omega
      by_cases hlt : k < N
      · have HBw := Lib.hid hg.out.size
        have hlD : (ncells (D ++ [m])).length = k + 1 := by rw [ncells_length, List.length_append, hD]; rfl
        have Hl1 : Hid (((ncells (D ++ [m])).length + 1) * 8 ≤ 140737488355328) := by show _ ≤ _; rw [hlD]; omega
        have Hl2 : Hid ((ncells (D ++ [m])).length + 1 ≤ maxLen) := by show _ ≤ _; rw [hlD]; unfold maxLen; omega
        have hBm : B < m := by
          rcases Nat.lt_or_ge B m with h | h
          · exact h
          · rw [lvn_stop h] at hlv; omega
        obtain ⟨n1, n2⟩ := need_ok m (by omega)
        have HN := fun w => Hns.out w m (by omega)
        rw [n1, n2] at HN
        have hq := nm_le (c := m)
        have Hl3 : Hid ((D ++ [m]) ++ lvs B (nm m) = L) := by show _ = _; rw [← hl.out, lvs_step hBm hB]; simp
        obtain ⟨q, hqe⟩ : ∃ q, q = nm m := ⟨_, rfl⟩
        rw [← hqe] at HN hq Hl3
        have HN' := Lib.hid HN
        have HlD := Lib.hid hlD
        have hki : (k : Int) < (N : Int) := by omega
        clear HN hqe n1 n2 hl hlv hBm hlD
        go_wp2_with (first
          | (go_at_call 37; refine (HN'.out wr).mono ?_; rintro e w3 ⟨rfl, hw3⟩; obtain rfl : wr = w3 := hw3.symm)
          | (at_builtin; refine wpList_add1 rfl (.tmp 31) (.tmp 33) 34 rfl w.heap.size 22 (.int .u64 0) 8 elemNums _ (ncells (D ++ [m])) rfl ho.out (.int .u64 (q : Nat)) rfl rfl Hl1.out Hl2.out HBw.out ?_; intro g2 cap2 w2 ho2 hg2; have HO2 := Lib.hid ho2; have HG2 := Lib.hid hg2; clear ho2 hg2)
          | fail)
        rw [HlD.out] at HO2 HG2 ⊢
        refine ⟨⟨q, k + 1, g2, cap2, D ++ [m], rfl, by rw [Int.natCast_add]; rfl, by omega, by omega, by simp [hD], rfl, Hl3, ?_, grown_bel ((bel_grown hg.out (Nat.le_refl _)).trans (HG2.out.below ho.out HBw.out)) none⟩, by simp [intOf] <;> omega⟩
        show Owns _ _ _ _ _
        rw [ncells_append (D ++ [m]) [q]]; exact HO2.out
      · obtain rfl : k = N := by omega
        have hm1 : lvs B m = [m] := by
          rcases Nat.lt_or_ge B m with h | h
          · rw [lvn_step h hB] at hlv; omega
          · exact lvs_stop h
        have HlE : Hid (D ++ [m] = L) := by show _ = _; rw [← hm1]; exact hl.out
        have hLl : L.length = k + 1 := by rw [← HlE.out, List.length_append, hD]; rfl
        clear hl hlv hm1
        go_wp2_with fail
        go_ret2
        refine ⟨_, rfl, ?_, fun _ => ⟨g, cap, by rw [hLl]; rfl, by have := ho.out.len_cap; rw [ncells_length] at this; rw [← HlE.out]; exact this⟩, hg⟩
        rw [← HlE.out]
        exact NumsAt.of_owns ho.out (by rw [HlE.out, hLl]; unfold maxLen; omega)
  · have e2 : lvL b c = [] := by unfold lvL; rw [if_neg h]
    rw [e2]
    have hb : (lvC b c == 0) = false := by simpa using h
    have HL' := Lib.hid HL
    clear HL
    go_enter Try.func16, Try.ntmps16
    go_wp2_with (first | (go_at_call 36; refine (HL'.out w).mono ?_; rintro e w1 ⟨rfl, hw1⟩; obtain rfl : w = w1 := hw1.symm) | fail)
    go_ret2
    exact ⟨_, rfl, ⟨none, 0, rfl, Nat.zero_le _, fun i hi => by simp at hi⟩, fun e => absurd e h, grown_self _ _⟩
end Go.Proofs.Ytiocmggnmggapaa
