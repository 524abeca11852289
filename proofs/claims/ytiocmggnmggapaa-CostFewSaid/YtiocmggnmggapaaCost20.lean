/- The walk of the statement on merges that are few. -/
import Derived.Test.YtiocmggnmggapaaCost17
namespace Go.Proofs.Ytiocmggnmggapaa
open Go.RowKit CostPlain
set_option linter.unusedVariables false

theorem fls_lens (k : Nat) : ∀ (N : Nat) (l : List Nat), l.length = N → ∀ x ∈ fls k l, x.length ≤ N := fun N => by
  induction N using Nat.strongRecOn with
  | _ N ih =>
    intro l hl x hx
    rw [fls] at hx
    split at hx
    · rename_i h
      have h1 := mrgL_lt h.1 h.2
      rcases List.mem_cons.1 hx with rfl | hx
      · omega
      · have := ih _ (by rw [← hl]; exact h1) (mrgL k l) rfl x hx
        omega
    · rw [List.mem_singleton] at hx; subst hx; omega
theorem many_le {b wd : Int} {c : Nat} (h : mnC b wd c = 0) : mnN b wd c ≤ 65536 := by
  obtain ⟨h1, h2, h3⟩ := mnN_ok h
  obtain ⟨b1, b2, b3, b4, b5, b6, _⟩ := szN_ok h1
  rw [h3]
  have := Nat.div_le_self (c + szN b wd - 1) (szN b wd)
  rcases Nat.eq_zero_or_pos c with h0 | h0
  · subst h0; have : (0 + szN b wd - 1) / szN b wd = 0 := Nat.div_eq_of_lt (by omega)
    omega
  · refine Nat.le_trans (Nat.div_le_div_left (show 25 ≤ szN b wd by omega) (by omega)) ?_
    omega
theorem files_sec_lt {b wd : Int} {c : Nat} (h : mnC b wd c = 0) : sec wd (files b wd c) < 18446744073709551616 := by
  have hE : files b wd c = fls (fnN b) (frs (mnN b wd c) (szN b wd) c) ++ [[c]] := by unfold files; rw [if_pos h]
  have hl : (frs (mnN b wd c) (szN b wd) c).length = mnN b wd c := by simp [frs]
  have hm := many_le h
  have h1 := fls_lens (fnN b) _ _ hl
  have h2 := fls_len (fnN b) _ _ hl
  have h3 := sec_le wd (files b wd c) (fun x hx => by
    rw [hE] at hx
    rcases List.mem_append.1 hx with hx | hx
    · exact Nat.le_trans (h1 x hx) hm
    · rw [List.mem_singleton] at hx; subst hx; simp) (by rw [hE, List.length_append]; simp; omega) (files b wd c).length
  rw [List.take_length] at h3
  omega

set_option maxRecDepth 100000 in
set_option maxHeartbeats 8000000 in
theorem costFew_walk (a0 : Int) (a1 : Int) (a2 : Int) (w0 : (Lit.int .i64 a0).wf = true) (w1 : (Lit.int .i64 a1).wf = true) (w2 : (Lit.int .u64 a2).wf = true) (w : World) :
    Calls Try.prog 8 #[.int .i64 a0, .int .i64 a1, .int .u64 a2] w fun e w' => e = .returned (.bool true) ∧ Below w.heap.size w w' := by
  obtain ⟨c, hc, rfl⟩ := wf_u64 w2
  have HS := fun w => sort_any a0 a1 c hc w
  have HN := fun w => fan_any a0 w
  have HD := fun w => need_any a1 c hc w
  have HV := Lib.hid lives_any
  unfold planV at HS
  clear w0 w1 w2
  by_cases h : mnC a0 a1 c = 0
  · obtain ⟨f1, f2, f3, f4, f5⟩ := files_all h
    obtain ⟨h1, h2, h3⟩ := mnN_ok h
    obtain ⟨b1, b2, b3, b4, b5, b6, _⟩ := szN_ok h1
    have hF0 : fnC a0 = 0 := by unfold fnC; rw [if_neg (by omega), if_neg (by omega)]
    obtain ⟨_, _, k1, k2, _⟩ := fnN_ok hF0
    have hD0 : ndC a1 c = 0 := by unfold ndC; rw [if_neg (by omega)]
    have hmb := many_le h
    have hse := files_sec h
    have hsb := files_sec_lt (wd := a1) h
    have HP := fun w => passes_any a0 (mnN a0 a1 c : Nat) w
    have HL := fun w => log_any (fnN a0) (max 1 (mnN a0 a1 c)) (by omega) (by omega) w
    have e1 : lgC (fnN a0) (max 1 (mnN a0 a1 c)) = 0 := by unfold lgC; rw [if_neg (by omega)]
    have e2 : lgN (fnN a0) (max 1 (mnN a0 a1 c)) = lg (fnN a0) (mnN a0 a1 c) := by unfold lgN; rw [if_pos e1, lg_max1]
    have e3 : psC a0 (mnN a0 a1 c : Nat) = 0 := by unfold psC; rw [if_neg (by rw [hF0]; simp), if_neg (by omega)]
    have e4 : psN a0 (mnN a0 a1 c : Nat) = lg (fnN a0) (mnN a0 a1 c) := by unfold psN; rw [if_pos e3, Int.toNat_natCast]
    have e5 : (files a0 a1 c).length - 1 = max 1 (lg (fnN a0) (mnN a0 a1 c)) := by omega
    have ht := lg_lt64 (fnN a0) (mnN a0 a1 c) (by omega)
    rw [h, e5] at HS
    rw [hF0] at HN
    rw [hD0] at HD
    rw [e1, e2] at HL
    rw [e3, e4] at HP
    obtain ⟨r, hr⟩ : ∃ r, r = mnN a0 a1 c := ⟨_, rfl⟩
    obtain ⟨k, hk⟩ : ∃ k, k = fnN a0 := ⟨_, rfl⟩
    rw [← hr, ← hk] at HP HL ht
    rw [← hr, ← hk] at HS
    rw [← hk] at HN k1 k2
    rw [← hr] at hmb
    obtain ⟨t, hte⟩ : ∃ t, t = lg k r := ⟨_, rfl⟩
    rw [← hte] at HP HL HS ht
    obtain ⟨p, hp⟩ : ∃ p, p = max 1 t := ⟨_, rfl⟩
    rw [← hp] at HS
    obtain ⟨s, hs⟩ : ∃ s, s = sec a1 (files a0 a1 c) := ⟨_, rfl⟩
    rw [← hs] at HS hse hsb
    obtain ⟨d, hd⟩ : ∃ d, d = ndN a1 c := ⟨_, rfl⟩
    rw [← hd] at HD hse
    have hd4 : d ≤ 40962 := by rw [hd]; exact ndN_le _ _
    obtain ⟨M, hM⟩ : ∃ M, M = max 1 r := ⟨_, rfl⟩
    rw [← hM] at HL
    have HS' := Lib.hid HS
    have HN' := Lib.hid HN
    have HD' := Lib.hid HD
    have HL' := Lib.hid HL
    have HP' := Lib.hid HP
    have hMi : (if (1 : Int) < (r : Int) then (r : Int) else 1) = (M : Int) := by split <;> omega
    have hpi : (if (1 : Int) < (t : Int) then (t : Int) else 1) = (p : Int) := by split <;> omega
    have hp1 : 1 ≤ (p : Int) := by omega
    have hpt : (p : Int) ≤ (t : Int) + 1 := by omega
    have hM6 : M ≤ 65536 := by omega
    have hdi : (d : Int) ≤ (s : Int) := by omega
    clear HS HN HD HL HP f1 f2 f3 f4 f5 h h1 h3 b5 b6 hF0 hD0 e1 e2 e3 e4 e5 hr hk hte hp hs hd hM
    go_enter Try.func8, Try.ntmps8
    go_wp2_with fail
    refine (HV.out _).mono ?_
    rintro e w1 ⟨rfl, hg1⟩
    simp only []
    go_wp2_with fail
    refine (HS'.out _).mono ?_
    rintro e w2 ⟨rfl, hg2⟩
    simp only []
    have q2 := heap_alloc_new w2 (.cells #[.int .i64 (r : Nat), .int .i64 (p : Nat), .int .u64 (s : Nat)] 28)
    have g2 := World.grownBy_alloc w2 (.cells #[.int .i64 (r : Nat), .int .i64 (p : Nat), .int .u64 (s : Nat)] 28) none
    have HG2 := Lib.hid (grown_trans (grown_trans hg1.out hg2.out) g2)
    obtain ⟨p0, p1, p2, _, _, _⟩ := row3 q2
    clear hg1 hg2 q2 g2
    go_wp2_with fail
    refine (HN'.out _).mono ?_
    rintro e w3 ⟨rfl, rfl⟩
    simp only []
    have hk1i : 18 ≤ (k : Int) := by omega
    have hk2i : (k : Int) ≤ 250 := by omega
    have hwk : IntKind.u64.wrap (k : Int) = (k : Int) := wrap64u_in _ (by omega) (by omega)
    have hwM : IntKind.u64.wrap (M : Int) = (M : Int) := wrap64u_in _ (by omega) (by omega)
    have hwd : IntKind.u64.wrap (d : Int) = (d : Int) := wrap64u_in _ (by omega) (by omega)
    go_wp2_with fail
    refine (HL'.out _).mono ?_
    rintro e w3 ⟨rfl, rfl⟩
    simp only []
    go_wp2_with fail
    refine (HD'.out _).mono ?_
    rintro e w3 ⟨rfl, rfl⟩
    simp only []
    go_wp2_with fail
    refine (HP'.out _).mono ?_
    rintro e w3 ⟨rfl, rfl⟩
    simp only []
    go_wp2_with fail
    go_ret
    exact ⟨rfl, bel_grown HG2.out (Nat.le_refl _)⟩
  · have e2 : files a0 a1 c = [] := by unfold files; rw [if_neg h]
    have e3 : mnN a0 a1 c = 0 := by unfold mnN; rw [if_neg h]
    rw [e2, e3] at HS
    obtain ⟨C, hC⟩ : ∃ C, C = mnC a0 a1 c := ⟨_, rfl⟩
    rw [← hC] at HS h
    have hb : (C == 0) = false := by simpa using h
    have hb2 : (C != 0) = true := by simpa using h
    have HS' : Hid (∀ w, Calls Try.prog 11 #[.int .i64 a0, .int .i64 a1, .int .u64 (c : Nat)] w fun e w' => e = .returned (.tuple #[.agg #[.int .i64 0, .int .i64 0, .int .u64 0], .int .i64 C]) ∧ Hid (w.grownBy w' none)) := HS
    have HN' := Lib.hid HN
    clear HS HN HD h hC e2 e3
    go_enter Try.func8, Try.ntmps8
    go_wp2_with fail
    refine (HV.out _).mono ?_
    rintro e w1 ⟨rfl, hg1⟩
    simp only []
    go_wp2_with fail
    refine (HS'.out _).mono ?_
    rintro e w2 ⟨rfl, hg2⟩
    simp only []
    have q2 := heap_alloc_new w2 (.cells #[.int .i64 0, .int .i64 0, .int .u64 0] 28)
    have g2 := World.grownBy_alloc w2 (.cells #[.int .i64 0, .int .i64 0, .int .u64 0] 28) none
    have HG2 := Lib.hid (grown_trans (grown_trans hg1.out hg2.out) g2)
    obtain ⟨p0, p1, p2, _, _, _⟩ := row3 q2
    clear hg1 hg2 q2 g2
    go_wp2_with fail
    refine (HN'.out _).mono ?_
    rintro e w3 ⟨rfl, rfl⟩
    simp only []
    go_wp2_with fail
    go_ret
    exact ⟨rfl, bel_grown HG2.out (Nat.le_refl _)⟩
end Go.Proofs.Ytiocmggnmggapaa
