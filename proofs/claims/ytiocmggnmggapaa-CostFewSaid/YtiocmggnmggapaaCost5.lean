/- The records that are sorted on the way. -/
import Derived.Test.YtiocmggnmggapaaCost4
namespace Go.Proofs.Ytiocmggnmggapaa
open Go.RowKit CostPlain
set_option linter.unusedVariables false

/-- the records of the first k levels -/
def crec (L : List Nat) : Nat → Nat
  | 0 => 0
  | k + 1 => crec L k + (L.getD k 0 + 3 * L.getD (k + 1) 0)
def rcN (b : Int) (c : Nat) : Nat := if lvC b c = 0 then crec (lvL b c) ((lvL b c).length - 1) else 0
theorem crec_le (L : List Nat) (h : ∀ x ∈ L, x ≤ 65536) (k : Nat) : crec L k ≤ 262144 * k := by
  have hg : ∀ i, L.getD i 0 ≤ 65536 := fun i => by
    rw [List.getD_eq_getElem?_getD]
    rcases Nat.lt_or_ge i L.length with h1 | h1
    · rw [List.getElem?_eq_getElem h1]; exact h _ (List.getElem_mem h1)
    · rw [List.getElem?_eq_none h1]; exact Nat.zero_le _
  induction k with
  | zero => exact Nat.zero_le _
  | succ k ih =>
    have h1 := hg k
    have h2 := hg (k + 1)
    show crec L k + (L.getD k 0 + 3 * L.getD (k + 1) 0) ≤ _
    omega
theorem lvL_ok {b : Int} {c : Nat} (h : lvC b c = 0) : 1 ≤ (lvL b c).length ∧ (lvL b c).length ≤ 65537 ∧ ∀ x ∈ lvL b c, x ≤ 65536 := by
  obtain ⟨h1, h2, h3⟩ := lvC_ok h
  have e2 : lvL b c = lvs (bs b) c := by unfold lvL; rw [if_pos h]
  rw [e2]
  have h4 := lvs_length (bs b) c
  have h5 := lvn_le (bs b) c
  exact ⟨by omega, by omega, fun x hx => by have := lvs_le (bs b) c x hx; omega⟩

set_option maxRecDepth 100000 in
set_option maxHeartbeats 4000000 in
theorem crecords_any (b : Int) (c : Nat) (hc : c < 18446744073709551616) (w : World) : Calls Try.prog 17 #[.int .i64 b, .int .u64 (c : Nat)] w fun e w' => e = .returned (.tuple #[.int .u64 (rcN b c : Nat), .int .i64 (lvC b c)]) ∧ Hid (w.grownBy w' none) := by
  have HL := Lib.hid (fun w => clevels_any b c hc w)
  by_cases h : lvC b c = 0
  · have e1 : rcN b c = crec (lvL b c) ((lvL b c).length - 1) := by unfold rcN; rw [if_pos h]
    rw [h, e1]
    obtain ⟨h1, h2, h3⟩ := lvL_ok h
    have hle := crec_le _ h3
    have HL' : Hid (∀ w, Calls Try.prog 15 #[.int .i64 b, .int .u64 (c : Nat)] w fun e w' => ∃ g cap, e = .returned (.tuple #[.slice (some ⟨g, 0, none⟩) (lvL b c).length cap, .int .i64 0]) ∧ (lvL b c).length ≤ cap ∧ NumsAt w' (.slice (some ⟨g, 0, none⟩) (lvL b c).length cap) (lvL b c) ∧ Hid (w.grownBy w' none)) := fun w => by
      refine (HL.out w).mono ?_
      rintro e w' ⟨v, rfl, hv, hf, hg⟩
      obtain ⟨g, cap, rfl, hcp⟩ := hf h
      exact ⟨g, cap, by rw [h], hcp, hv, hg⟩
    obtain ⟨L, hL⟩ : ∃ L, L = lvL b c := ⟨_, rfl⟩
    rw [← hL] at HL' h1 h2 h3 hle ⊢
    obtain ⟨n, hn⟩ : ∃ n, n = L.length := ⟨_, rfl⟩
    rw [← hn] at HL' h1 h2 ⊢
    have Hn := Lib.hid hn
    have Hle := Lib.hid hle
    have H3 := Lib.hid h3
    clear HL hL e1 h hn hle h3
    go_enter Try.func17, Try.ntmps17
    go_wp2_with fail
    refine (HL'.out w).mono ?_
    rintro e w1 ⟨g, cap, rfl, hcp, hv, hg⟩
    obtain ⟨a', c', hv1, hv2, hv3⟩ := hv
    injection hv1 with hv1 hv4 hv5
    subst hv1
    have Hc : Hid (∀ i, i < n → w1.cell? ⟨g, i, none⟩ = some (.int .u64 (L.getD i 0 : Nat)) ∧ L.getD i 0 ≤ 65536) := fun i hi => by
      have hi2 : i < L.length := by rw [← Hn.out]; exact hi
      obtain ⟨x, h4, h5⟩ := hv3 i hi2
      injection h4 with h4
      subst h4
      rw [add_plain, Nat.zero_add] at h5
      have e : L.getD i 0 = L[i] := by simp [List.getD, hi2]
      rw [e]
      exact ⟨h5, H3.out _ (List.getElem_mem hi2)⟩
    clear hv2 hv3 hv4 hv5 HL' H3
    have hn8 : (n : Int) ≤ 65537 := by omega
    have hn1 : 1 ≤ (n : Int) := by omega
    have hcp8 : (n : Int) ≤ (cap : Int) := by omega
    simp only []
    by_cases hcap : cap = 1
    · obtain rfl : n = 1 := by omega
      subst hcap
      clear Hc
      go_wp2_with fail
      go_loopw [8, 23] (fun sv iv wr => sv = .int .u64 0 ∧ iv = .int .i64 0 ∧ wr = w1) (fun _ _ _ => 0)
      case atStart => exact ⟨rfl, rfl, rfl⟩
      case round =>
        obtain ⟨rfl, rfl, hwr⟩ := hrel
        obtain rfl : w1 = wr := hwr.symm
        go_wp2_with fail
        go_ret2
        exact ⟨rfl, hg⟩
    · have hcap1 : ¬ (cap : Int) = 1 := by omega
      go_wp2_with fail
      go_loopw [8, 23] (fun sv iv wr => ∃ k : Nat, iv = .int .i64 (k : Nat) ∧ k ≤ n - 1 ∧ sv = .int .u64 (crec L k : Nat) ∧ wr = w1) (fun _ iv _ => n - 1 - (intOf iv).toNat)
      case atStart => exact ⟨0, rfl, Nat.zero_le _, rfl, rfl⟩
      case round =>
        obtain ⟨k, rfl, hk, rfl, hwr⟩ := hrel
        obtain rfl : w1 = wr := hwr.symm
        have hs := Hle.out k
        by_cases hlt : k < n - 1
        · obtain ⟨c0, x0⟩ := Hc.out k (by omega)
          obtain ⟨c1, x1⟩ := Hc.out (k + 1) (by omega)
          have HS : Hid (crec L (k + 1) = crec L k + (L.getD k 0 + 3 * L.getD (k + 1) 0)) := rfl
          obtain ⟨s, hse⟩ : ∃ s, s = crec L k := ⟨_, rfl⟩
          obtain ⟨x, hxe⟩ : ∃ x, x = L.getD k 0 := ⟨_, rfl⟩
          obtain ⟨y, hye⟩ : ∃ y, y = L.getD (k + 1) 0 := ⟨_, rfl⟩
          rw [← hse, ← hxe, ← hye] at HS
          rw [← hse] at hs ⊢
          rw [← hxe] at c0 x0
          rw [← hye] at c1 x1
          rw [Nat.add_comm k 1] at c1
          have hki : (k : Int) < ((n - 1 : Nat) : Int) := by omega
          have hki2 : (k : Int) < (n : Int) := by omega
          have hw1 : IntKind.u64.wrap ((x : Int) + (y : Int)) = (x : Int) + (y : Int) := wrap64u_in _ (by omega) (by omega)
          have hw2 : IntKind.u64.wrap ((x : Int) + (y : Int) + (y : Int)) = (x : Int) + (y : Int) + (y : Int) := wrap64u_in _ (by omega) (by omega)
          have hw3 : IntKind.u64.wrap ((x : Int) + (y : Int) + (y : Int) + (y : Int)) = (x : Int) + (y : Int) + (y : Int) + (y : Int) := wrap64u_in _ (by omega) (by omega)
          have hw4 : IntKind.u64.wrap ((s : Int) + ((x : Int) + (y : Int) + (y : Int) + (y : Int))) = ((s + (x + 3 * y) : Nat) : Int) := by rw [wrap64u_in _ (by omega) (by omega)]; omega
          clear hse hxe hye
          go_wp2_with fail
          exact ⟨⟨k + 1, by rw [Int.natCast_add]; rfl, by omega, by rw [HS.out]; first | rfl | (simp only [Int.natCast_add, Int.natCast_mul]; rfl), trivial⟩, by simp [intOf] <;> omega⟩
        · obtain rfl : k = n - 1 := by omega
          go_wp2_with fail
          go_ret2
          exact ⟨rfl, hg⟩
  · have e2 : rcN b c = 0 := by unfold rcN; rw [if_neg h]
    rw [e2]
    have hb : (lvC b c == 0) = false := by simpa using h
    clear e2
    go_enter Try.func17, Try.ntmps17
    go_wp2_with (first | (go_at_call 15; refine (HL.out w).mono ?_; rintro e w1 ⟨v, rfl, _, _, hg⟩) | fail)
    go_ret2
    exact ⟨rfl, hg⟩
set_option maxRecDepth 100000 in
set_option maxHeartbeats 4000000 in
theorem rcrecords_any (b : Int) (c : Nat) (hc : c < 18446744073709551616) (w : World) : Calls Try.prog 18 #[.int .i64 b, .int .u64 (c : Nat)] w fun e w' => e = .returned (.tuple #[.int .u64 (rcN b c : Nat), .int .i64 (lvC b c)]) ∧ Hid (w.grownBy w' none) := by
  have HL := Lib.hid (fun w => rclevels_any b c hc w)
  by_cases h : lvC b c = 0
  · have e1 : rcN b c = crec (lvL b c) ((lvL b c).length - 1) := by unfold rcN; rw [if_pos h]
    rw [h, e1]
    obtain ⟨h1, h2, h3⟩ := lvL_ok h
    have hle := crec_le _ h3
    have HL' : Hid (∀ w, Calls Try.prog 16 #[.int .i64 b, .int .u64 (c : Nat)] w fun e w' => ∃ g cap, e = .returned (.tuple #[.slice (some ⟨g, 0, none⟩) (lvL b c).length cap, .int .i64 0]) ∧ (lvL b c).length ≤ cap ∧ NumsAt w' (.slice (some ⟨g, 0, none⟩) (lvL b c).length cap) (lvL b c) ∧ Hid (w.grownBy w' none)) := fun w => by
      refine (HL.out w).mono ?_
      rintro e w' ⟨v, rfl, hv, hf, hg⟩
      obtain ⟨g, cap, rfl, hcp⟩ := hf h
      exact ⟨g, cap, by rw [h], hcp, hv, hg⟩
    obtain ⟨L, hL⟩ : ∃ L, L = lvL b c := ⟨_, rfl⟩
    rw [← hL] at HL' h1 h2 h3 hle ⊢
    obtain ⟨n, hn⟩ : ∃ n, n = L.length := ⟨_, rfl⟩
    rw [← hn] at HL' h1 h2 ⊢
    have Hn := Lib.hid hn
    have Hle := Lib.hid hle
    have H3 := Lib.hid h3
    clear HL hL e1 h hn hle h3
    go_enter Try.func18, Try.ntmps18
    go_wp2_with fail
    refine (HL'.out w).mono ?_
    rintro e w1 ⟨g, cap, rfl, hcp, hv, hg⟩
    obtain ⟨a', c', hv1, hv2, hv3⟩ := hv
    injection hv1 with hv1 hv4 hv5
    subst hv1
    have Hc : Hid (∀ i, i < n → w1.cell? ⟨g, i, none⟩ = some (.int .u64 (L.getD i 0 : Nat)) ∧ L.getD i 0 ≤ 65536) := fun i hi => by
      have hi2 : i < L.length := by rw [← Hn.out]; exact hi
      obtain ⟨x, h4, h5⟩ := hv3 i hi2
      injection h4 with h4
      subst h4
      rw [add_plain, Nat.zero_add] at h5
      have e : L.getD i 0 = L[i] := by simp [List.getD, hi2]
      rw [e]
      exact ⟨h5, H3.out _ (List.getElem_mem hi2)⟩
    clear hv2 hv3 hv4 hv5 HL' H3
    have hn8 : (n : Int) ≤ 65537 := by omega
    have hn1 : 1 ≤ (n : Int) := by omega
    have hcp8 : (n : Int) ≤ (cap : Int) := by omega
    simp only []
    go_wp2_with fail
    go_loopw [8, 9] (fun sv iv wr => ∃ k : Nat, iv = .int .i64 (k : Nat) ∧ k ≤ n - 1 ∧ sv = .int .u64 (crec L k : Nat) ∧ wr.grownBy wr none ∧ Hid (w.grownBy wr none) ∧ Hid (∀ i, i < n → wr.cell? ⟨g, i, none⟩ = some (.int .u64 (L.getD i 0 : Nat)) ∧ L.getD i 0 ≤ 65536)) (fun _ iv _ => n - 1 - (intOf iv).toNat)
    case atStart => exact ⟨0, rfl, Nat.zero_le _, rfl, grown_self _ _, hg, Hc⟩
    case round =>
      clear hg Hc
      obtain ⟨k, rfl, hk, rfl, _, hg, Hc⟩ := hrel
      have hs := Hle.out k
      by_cases hlt : k < n - 1
      · obtain ⟨c0, x0⟩ := Hc.out k (by omega)
        obtain ⟨c1, x1⟩ := Hc.out (k + 1) (by omega)
        have HS : Hid (crec L (k + 1) = crec L k + (L.getD k 0 + 3 * L.getD (k + 1) 0)) := rfl
        obtain ⟨s, hse⟩ : ∃ s, s = crec L k := ⟨_, rfl⟩
        obtain ⟨x, hxe⟩ : ∃ x, x = L.getD k 0 := ⟨_, rfl⟩
        obtain ⟨y, hye⟩ : ∃ y, y = L.getD (k + 1) 0 := ⟨_, rfl⟩
        rw [← hse, ← hxe, ← hye] at HS
        rw [← hse] at hs ⊢
        rw [← hxe] at c0 x0
        rw [← hye] at c1 x1
        have hki : (k : Int) + 1 < (n : Int) := by omega
        have hki2 : (k : Int) < (n : Int) := by omega
        have hw1 : IntKind.u64.wrap (3 * (y : Int)) = 3 * (y : Int) := wrap64u_in _ (by omega) (by omega)
        have hw2 : IntKind.u64.wrap (3 * (y : Int) + (x : Int)) = 3 * (y : Int) + (x : Int) := wrap64u_in _ (by omega) (by omega)
        have hw3 : IntKind.u64.wrap ((s : Int) + (3 * (y : Int) + (x : Int))) = ((s + (x + 3 * y) : Nat) : Int) := by rw [wrap64u_in _ (by omega) (by omega)]; omega
        clear hse hxe hye
        go_wp2_with fail
        go_quiet (fail)
        go_wp2_with fail
        exact ⟨⟨k + 1, by rw [Int.natCast_add]; rfl, by omega, by rw [HS.out]; first | rfl | (simp only [Int.natCast_add, Int.natCast_mul]; rfl), grown_self _ _, grown_trans hg.out (grown_drewN wr nq none), fun i hi => Hc.out i hi⟩, by simp [intOf] <;> omega⟩
      · obtain rfl : k = n - 1 := by omega
        go_wp2_with fail
        go_ret2
        exact ⟨rfl, hg⟩
  · have e2 : rcN b c = 0 := by unfold rcN; rw [if_neg h]
    rw [e2]
    have hb : (lvC b c == 0) = false := by simpa using h
    clear e2
    go_enter Try.func18, Try.ntmps18
    go_wp2_with (first | (go_at_call 16; refine (HL.out w).mono ?_; rintro e w1 ⟨v, rfl, _, _, hg⟩) | fail)
    go_ret2
    exact ⟨rfl, hg⟩
end Go.Proofs.Ytiocmggnmggapaa
