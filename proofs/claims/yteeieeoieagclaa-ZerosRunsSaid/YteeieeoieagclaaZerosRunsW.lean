/- The walk of ZerosRuns: true for every input. -/
import Derived.Test.YteeieeoieagclaaZerosW
namespace Go.Proofs.Yteeieeoieagclaa
open Go.RowKit ZerosPlain
set_option linter.unusedVariables false

set_option maxRecDepth 100000 in
set_option maxHeartbeats 8000000 in
theorem zerosRuns_walk (n0 : Int) (a1 : Option Addr) (len1 cap1 : Nat) (z1 : List Int) (w : World) (w0 : (Lit.int .u64 n0).wf = true) (w1 : IsRow .u64 w a1 len1 cap1 z1) :
    Calls Try.prog 6 #[.int .u64 n0, .slice a1 len1 cap1] w fun e w' => e = .returned (.bool true) ∧ Below w.heap.size w w' := by
  obtain ⟨n, hn, rfl⟩ : ∃ m : Nat, m < 18446744073709551616 ∧ n0 = (m : Int) := by
    have h := w0
    simp [Lit.wf, IntKind.min, IntKind.max, IntKind.signed, IntKind.bits] at h
    exact ⟨n0.toNat, by omega, by omega⟩
  obtain ⟨L, hL, hlc, h64, hL0⟩ := nums_of_row w1
  have HL := Lib.hid hL0
  have HD := Lib.hid (digits_k n hn _ rfl)
  have HK : Hid ((digR n).2 = 0 → 1 ≤ n ∧ n ≤ 65536 ∧ (digR n).1 = dg n ∧ ∀ (v : Value) (W : World), NumsAt W v (dg n) → Calls Try.prog 15 #[v] W fun e w' => e = .returned (.tuple #[.int .u64 (n : Nat), .int .i64 0]) ∧ Hid (W.grownBy w' none)) := fun h => by
    obtain ⟨h1, h2, h3, h4⟩ := numR_digR n h
    rw [h2] at h1
    exact ⟨h3, h4, h2, fun v W hv => number_k v (dg n) _ h1 W hv⟩
  have HN := Lib.hid (fun W => number_k (.slice a1 len1 cap1) L _ rfl W)
  have HN0 : Hid ((numR L).2 ≠ 0 → (numR L).1 = 0) := numR_none L
  have HN1 : Hid ((numR L).2 = 0 → ∀ W : World, Calls Try.prog 13 #[.int .u64 ((numR L).1 : Nat)] W fun e w' => ∃ v, e = .returned (.tuple #[v, .int .i64 0]) ∧ NumsAt w' v L ∧ Hid (W.grownBy w' none)) := fun h W => by
    have h1 := digR_numR L h
    have hlt : (numR L).1 < 18446744073709551616 := by
      unfold digR at h1
      split at h1
      · simp at h1
      · omega
    exact digits_k (numR L).1 hlt _ h1 W
  clear w0 w1 hL hL0 h64
  obtain ⟨q, hq⟩ : ∃ q, numR L = q := ⟨_, rfl⟩
  rw [hq] at HN HN0 HN1
  obtain ⟨r, hr⟩ : ∃ r, digR n = r := ⟨_, rfl⟩
  rw [hr] at HD HK
  clear hq hr
  obtain ⟨m, c2⟩ := q
  obtain ⟨l1, c1⟩ := r
  dsimp only at HN HN0 HN1 HD HK
  go_enter Try.func6, Try.ntmps6
  go_wp2_with fail
  refine (lives_any _).mono ?_
  rintro e w2 ⟨rfl, hg0⟩
  simp only []
  go_wp2_with fail
  refine (HD.out _).mono ?_
  rintro e w3 ⟨a, rfl, ha, hg1⟩
  have HG3 : Hid (w.grownBy w3 none) := grown_trans hg0.out hg1.out
  clear hg0 hg1
  simp only []
  by_cases hc : c1 = 0
  · subst hc
    obtain ⟨hn1, hn2, rfl, hk⟩ := HK.out rfl
    obtain ⟨ax, acp, rfl, ham, hac⟩ := id ha
    have HA := Lib.hid ha
    have Hk := Lib.hid hk
    have hdl : (dg n).length ≤ 65536 := Nat.le_trans (dg_length_le n) hn2
    obtain ⟨D, hD⟩ : ∃ D, D = (dg n).length := ⟨_, rfl⟩
    rw [← hD] at hdl HA ham ⊢
    have HDl := Lib.hid hD
    clear ha hk HK hac ham hD
    go_wp2_with fail
    refine (Hk.out _ _ HA.out).mono ?_
    rintro e w4 ⟨rfl, hg4⟩
    have HG := Lib.hid (grown_trans HG3.out hg4.out)
    simp only []
    clear HG3 hg4 HA Hk
    go_wp2_with fail
    go_loopw [9, 10] (fun bv kv wr => ∃ (b k : Nat), bv = .int .i64 (b : Nat) ∧ kv = .int .u64 (k : Nat) ∧ 1 ≤ k ∧ k ≤ 65537 ∧ b ≤ 65536 ∧ Hid (b + (dg (k - 1)).length = D) ∧ wr = w4) (fun _ kv _ => (intOf kv).toNat)
    case atStart => exact ⟨0, n + 1, rfl, by rw [Int.natCast_add]; rfl, by omega, by omega, by omega, by show _ = _; rw [HDl.out, Nat.add_sub_cancel]; omega, rfl⟩
    case round =>
      obtain ⟨b, k, rfl, rfl, hk1, hk2, hb2, hbD, rfl⟩ := hrel
      by_cases hlt : 1 < k
      · have hh := dg_half hlt
        have Hnew : Hid (b + 1 + (dg (k / 2 - 1)).length = D) := by show _ = _; rw [← hbD.out, hh]; omega
        have hb3 : b + 1 ≤ 65536 := by have := Hnew.out; omega
        have hk3 : 1 ≤ k / 2 := by omega
        clear hh
        go_wp2_with fail
        exact ⟨⟨b + 1, k / 2, by rw [Int.natCast_add]; rfl, by rw [Int.natCast_ediv]; rfl, hk3, by omega, hb3, Hnew, trivial⟩, by simp [intOf]; omega⟩
      · have hk0 : k = 1 := by omega
        subst hk0
        have hbe : b = D := by have := hbD.out; rw [show 1 - 1 = 0 from rfl, dg_zero] at this; simpa using this
        subst hbe
        clear hbD HDl
        go_wp2_with fail
        refine (HN.out _ (HL.out.grown HG.out)).mono ?_
        rintro e w5 ⟨rfl, hg5⟩
        have HG5 := Lib.hid (grown_trans HG.out hg5.out)
        simp only []
        by_cases h3 : c2 = 0
        · subst h3
          have Hen := Lib.hid (HN1.out rfl)
          clear HN1 HN0 hg5 HG
          go_wp2_with fail
          refine (Hen.out _).mono ?_
          rintro e w6 ⟨b, rfl, hb, hg6⟩
          have HG6 := Lib.hid (grown_trans HG5.out hg6.out)
          have HB := Lib.hid hb
          clear hb hg6 HG5 Hen
          simp only []
          go_wp2_with fail
          refine (same_k _ _ L _ HB.out (HL.out.grown HG6.out)).mono ?_
          rintro e w7 ⟨rfl, hg7⟩
          simp only []
          go_wp2_with fail
          go_ret
          exact ⟨rfl, bel_grown (grown_trans HG6.out hg7.out) (Nat.le_refl _)⟩
        · obtain rfl := HN0.out h3
          have hc3 : (c2 == 0) = false := by simpa using h3
          clear h3 HN0 HN1 hg5 HG
          go_wp2_with fail
          go_ret
          exact ⟨rfl, bel_grown HG5.out (Nat.le_refl _)⟩
  · have hc' : (c1 == 0) = false := by simpa using hc
    clear ha hc HK
    go_wp2_with fail
    refine (HN.out _ (HL.out.grown HG3.out)).mono ?_
    rintro e w5 ⟨rfl, hg5⟩
    have HG5 := Lib.hid (grown_trans HG3.out hg5.out)
    simp only []
    by_cases h3 : c2 = 0
    · subst h3
      have Hen := Lib.hid (HN1.out rfl)
      clear HN1 HN0 hg5 HG3
      go_wp2_with fail
      refine (Hen.out _).mono ?_
      rintro e w6 ⟨b, rfl, hb, hg6⟩
      have HG6 := Lib.hid (grown_trans HG5.out hg6.out)
      have HB := Lib.hid hb
      clear hb hg6 HG5 Hen
      simp only []
      go_wp2_with fail
      refine (same_k _ _ L _ HB.out (HL.out.grown HG6.out)).mono ?_
      rintro e w7 ⟨rfl, hg7⟩
      simp only []
      go_wp2_with fail
      go_ret
      exact ⟨rfl, bel_grown (grown_trans HG6.out hg7.out) (Nat.le_refl _)⟩
    · obtain rfl := HN0.out h3
      have hc3 : (c2 == 0) = false := by simpa using h3
      clear h3 HN0 HN1 hg5 HG3
      go_wp2_with fail
      go_ret
      exact ⟨rfl, bel_grown HG5.out (Nat.le_refl _)⟩
end Go.Proofs.Yteeieeoieagclaa
