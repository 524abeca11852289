/- The walks of the statements on all records, on levels that become less, on merges that are few. -/
import Derived.Test.YtiocmggnmggapaaCost17
namespace Go.Proofs.Ytiocmggnmggapaa
open Go.RowKit CostPlain
set_option linter.unusedVariables false

set_option maxRecDepth 100000 in
set_option maxHeartbeats 8000000 in
theorem costLess_walk (a0 : Int) (a1 : Int) (w0 : (Lit.int .i64 a0).wf = true) (w1 : (Lit.int .u64 a1).wf = true) (w : World) :
    Calls Try.prog 6 #[.int .i64 a0, .int .u64 a1] w fun e w' => e = .returned (.bool true) ∧ Below w.heap.size w w' := by
  obtain ⟨c, hc, rfl⟩ := wf_u64 w1
  have HF := fun w => clevels_any a0 c hc w
  have HL := fun w => levels_any a0 c hc w
  have HR := fun w => crecords_any a0 c hc w
  have HV := Lib.hid lives_any
  clear w0 w1
  by_cases h : lvC a0 c = 0
  · obtain ⟨h1, h2, h3⟩ := lvC_ok h
    obtain ⟨hB, _, _⟩ := bs_ok h1 h2
    have e1 : lvN a0 c = lvn (bs a0) c := by unfold lvN; rw [if_pos h]
    have e2 : lvL a0 c = lvs (bs a0) c := by unfold lvL; rw [if_pos h]
    have hlen := lvs_length (bs a0) c
    have hnx := lvs_next (bs a0) hB c
    have hhd := lvs_head (bs a0) c hB
    have hle := lvs_le (bs a0) c
    have hN := lvn_le (bs a0) c
    have HR2 := fun w => crecords_any a0 (c + 1) (by omega) w
    have hmono := rcN_mono (b := a0) (c := c)
    rw [h, e1] at HL
    rw [h, e2] at HF
    rw [h] at HR
    obtain ⟨L, hL⟩ : ∃ L, L = lvs (bs a0) c := ⟨_, rfl⟩
    obtain ⟨N, hNe⟩ : ∃ N, N = lvn (bs a0) c := ⟨_, rfl⟩
    obtain ⟨r, hr⟩ : ∃ r, r = rcN a0 c := ⟨_, rfl⟩
    obtain ⟨r2, hr2⟩ : ∃ r2, r2 = rcN a0 (c + 1) := ⟨_, rfl⟩
    obtain ⟨D, hD⟩ : ∃ D, D = lvC a0 (c + 1) := ⟨_, rfl⟩
    rw [← hL] at HF hlen hnx hhd hle
    rw [← hNe] at HL hlen hN
    rw [← hr] at HR hmono
    rw [← hr2, ← hD] at HR2
    rw [← hr2, ← hD] at hmono
    rw [show (((c + 1 : Nat)) : Int) = (c : Int) + 1 from Int.natCast_add c 1] at HR2
    have HF' := Lib.hid HF
    have HL' := Lib.hid HL
    have HR' := Lib.hid HR
    have HR2' := Lib.hid HR2
    have Hlen := Lib.hid hlen
    have Hnx := Lib.hid (fun i (hi : i + 1 < L.length) => (⟨by rw [(hnx i hi).1]; exact nm_two _, by rw [(hnx i hi).1]; exact nm_lt (by have := (hnx i hi).2; omega)⟩ : L.getD (i + 1) 0 ≤ 2 * L.getD i 0 / 3 + 1 ∧ L.getD (i + 1) 0 < L.getD i 0))
    have Hhd := Lib.hid hhd
    have Hle : Hid (∀ i, L.getD i 0 ≤ 65536) := fun i => by
      rcases Nat.lt_or_ge i L.length with h9 | h9
      · have := hle (L[i]) (List.getElem_mem h9)
        simp [List.getD, h9]; omega
      · simp [List.getD, h9]
    have Hmono : Hid (D = 0 → r ≤ r2) := hmono
    have hN8 : (N : Int) ≤ 65536 := by omega
    clear HF HL HR HR2 hlen hnx hhd hle hmono e1 e2 hL hNe hr hr2 hD h
    go_enter Try.func6, Try.ntmps6
    go_wp2_with fail
    refine (HV.out _).mono ?_
    rintro e w1 ⟨rfl, hg1⟩
    simp only []
    go_wp2_with fail
    refine (HF'.out _).mono ?_
    rintro e w2 ⟨v, rfl, hv, hv2, hg2⟩
    simp only []
    obtain ⟨g, cap, rfl, hcap⟩ := hv2 (by trivial)
    have Hc : Hid (∀ W, w2.grownBy W none → ∀ i, i < L.length → W.cell? ⟨g, i, none⟩ = some (.int .u64 (L.getD i 0 : Nat))) := fun W hW i hi => by
      obtain ⟨a, c9, e9, _, h9⟩ := hv
      injection e9 with e9
      obtain ⟨x, h7, h8⟩ := h9 i hi
      rw [← e9] at h7
      injection h7 with h7
      subst h7
      rw [add_plain, Nat.zero_add] at h8
      rw [hW.cell h8 (by simp)]
      simp [List.getD, hi]
    rw [Hlen.out] at Hc hcap ⊢
    have HG2 := Lib.hid (grown_trans hg1.out hg2.out)
    clear hv hv2 hg1 hg2
    go_wp2_with fail
    refine (HL'.out _).mono ?_
    rintro e w3 ⟨rfl, rfl⟩
    simp only []
    go_wp2_with fail
    go_loop [41] (fun iv => ∃ i : Nat, iv = .int .i64 (i : Nat) ∧ i ≤ N + 1) (fun iv => N + 1 - (intOf iv).toNat)
    case atStart => exact ⟨0, rfl, Nat.zero_le _⟩
    case round =>
      obtain ⟨i, rfl, hi⟩ := hrel
      by_cases hlt : i < N + 1
      · have ci := Hc.out _ (grown_self _ _) i hlt
        have hii : (i : Int) < (N : Int) + 1 := by omega
        have hx6 := Hle.out i
        rcases Nat.eq_zero_or_pos i with h0 | h0
        · subst h0
          obtain ⟨x, hx⟩ : ∃ x, x = L.getD 0 0 := ⟨_, rfl⟩
          rw [← hx] at ci
          clear hx hx6
          go_wp2_with fail
          go_round
          case rel => exact ⟨1, rfl, by omega⟩
          case measure => simp [intOf] <;> omega
        · have ci2 := Hc.out _ (grown_self _ _) (i - 1) (by omega)
          have hy6 := Hle.out (i - 1)
          obtain ⟨h1, h2⟩ := Hnx.out (i - 1) (by rw [Hlen.out]; omega)
          rw [show i - 1 + 1 = i by omega] at h1 h2
          obtain ⟨x, hx⟩ : ∃ x, x = L.getD i 0 := ⟨_, rfl⟩
          obtain ⟨y, hy⟩ : ∃ y, y = L.getD (i - 1) 0 := ⟨_, rfl⟩
          rw [← hx] at ci hx6 h1 h2
          rw [← hy] at ci2 hy6 h1 h2
          have hxy : (x : Int) ≤ 2 * (y : Int) / 3 + 1 := by omega
          have hxy2 : (x : Int) < (y : Int) := by omega
          have hi0 : 0 < (i : Int) := by omega
          obtain ⟨j, hj⟩ : ∃ j, i = j + 1 := ⟨i - 1, by omega⟩
          subst hj
          rw [Nat.add_sub_cancel] at ci2
          clear hx hy h1 h2
          go_wp2_with fail
          go_round
          case rel => exact ⟨j + 1 + 1, by go_num, by omega⟩
          case measure => simp [intOf] <;> omega
      · obtain rfl : i = N + 1 := by omega
        go_wp2_with fail
        refine (HR'.out _).mono ?_
        rintro e w4 ⟨rfl, hg4⟩
        simp only []
        have HG4 := Lib.hid (grown_trans HG2.out hg4.out)
        have Hc4 := Lib.hid (fun W (hW : w4.grownBy W none) => Hc.out W (grown_trans hg4.out hW) 0 (by omega))
        clear hg4
        go_wp2_with fail
        refine (HR2'.out _).mono ?_
        rintro e w5 ⟨rfl, hg5⟩
        simp only []
        have c0 := Hc4.out _ hg5.out
        rw [Hhd.out] at c0
        have HG5 := Lib.hid (grown_trans HG4.out hg5.out)
        clear hg5
        by_cases hD : D = 0
        · have h9 := Hmono.out hD
          subst hD
          have h9i : (r : Int) ≤ (r2 : Int) := by omega
          clear h9
          go_wp2_with fail
          go_ret
          exact ⟨rfl, bel_grown HG5.out (Nat.le_refl _)⟩
        · have hD1 : (D == 0) = false := by simpa using hD
          have hD2 : (D != 0) = true := by simpa using hD
          clear hD
          go_wp2_with fail
          go_ret
          exact ⟨rfl, bel_grown HG5.out (Nat.le_refl _)⟩
  · have e2 : lvL a0 c = [] := by unfold lvL; rw [if_neg h]
    rw [e2] at HF
    obtain ⟨C, hC⟩ : ∃ C, C = lvC a0 c := ⟨_, rfl⟩
    rw [← hC] at HF HL h
    have hb : (C == 0) = false := by simpa using h
    have hb2 : (C != 0) = true := by simpa using h
    have HF' := Lib.hid HF
    have HL' := Lib.hid HL
    clear HF HL HR h hC e2
    go_enter Try.func6, Try.ntmps6
    go_wp2_with fail
    refine (HV.out _).mono ?_
    rintro e w1 ⟨rfl, hg1⟩
    simp only []
    go_wp2_with fail
    refine (HF'.out _).mono ?_
    rintro e w2 ⟨v, rfl, hv, hv2, hg2⟩
    simp only []
    obtain ⟨a, cap, rfl, _⟩ := hv
    have HG2 := Lib.hid (grown_trans hg1.out hg2.out)
    clear hv2 hg1 hg2
    go_wp2_with fail
    refine (HL'.out _).mono ?_
    rintro e w3 ⟨rfl, rfl⟩
    simp only []
    go_wp2_with fail
    go_ret
    exact ⟨rfl, bel_grown HG2.out (Nat.le_refl _)⟩
end Go.Proofs.Ytiocmggnmggapaa
