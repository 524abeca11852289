/- The walk of cost.Files. -/
import Derived.Test.YtiocmggnmggapaaCost9
namespace Go.Proofs.Ytiocmggnmggapaa
open Go.RowKit CostPlain
set_option linter.unusedVariables false

/-- v is a slice of slices that hold the lists ls -/
def ListsAt (w : World) (v : Value) (ls : List (List Nat)) : Prop :=
  (v = .slice none 0 0 ∧ ls = []) ∨ ∃ (g cap : Nat) (vs : List Value), v = .slice (some ⟨g, 0, none⟩) ls.length cap ∧ ls.length ≤ cap ∧ ls.length ≤ 65540 ∧ (∀ j, j < ls.length → w.cell? ⟨g, j, none⟩ = some (vs.getD j undef)) ∧ ∀ j, j < ls.length → NAt0 w (vs.getD j undef) (ls.getD j [])
def lenOf : Value → Nat
  | .slice _ n _ => n
  | _ => 0
theorem fls_len (k : Nat) : ∀ (N : Nat) (l : List Nat), l.length = N → (fls k l).length ≤ N + 1 := fun N => by
  induction N using Nat.strongRecOn with
  | _ N ih =>
    intro l hl
    rw [fls]
    split
    · rename_i h
      have h1 := mrgL_lt h.1 h.2
      have := ih _ (by rw [← hl]; exact h1) (mrgL k l) rfl
      rw [List.length_cons]; omega
    · simp
theorem frs_sum (n c : Nat) (hn : 1 ≤ n) : ∀ m, (frs m n c).sum = min (m * n) c
  | 0 => by simp [frs]
  | m + 1 => by
    have ih := frs_sum n c hn m
    unfold frs at ih ⊢
    rw [List.range_succ, List.map_append, List.sum_append, ih]
    simp only [List.map_cons, List.map_nil, List.sum_cons, List.sum_nil, Nat.add_zero, Nat.succ_mul]
    omega
set_option maxRecDepth 100000 in
set_option maxHeartbeats 8000000 in
theorem files_any (b wd : Int) (c : Nat) (hc : c < 18446744073709551616) (w : World) :
    Calls Try.prog 9 #[.int .i64 b, .int .i64 wd, .int .u64 (c : Nat)] w fun e w' => ∃ v, e = .returned (.tuple #[v, .int .i64 (mnC b wd c)]) ∧ ListsAt w' v (files b wd c) ∧ Hid (w.grownBy w' none) := by
  have HM := fun w => many_any b wd c hc w
  by_cases h : mnC b wd c = 0
  · obtain ⟨h1, h2, h3⟩ := mnN_ok h
    obtain ⟨b1, b2, _, _, b5, b6, _⟩ := szN_ok h1
    have hF0 : fnC b = 0 := by unfold fnC; rw [if_neg (by omega), if_neg (by omega)]
    obtain ⟨_, _, f1, f2, _⟩ := fnN_ok hF0
    have hE : files b wd c = fls (fnN b) (frs (mnN b wd c) (szN b wd) c) ++ [[c]] := by unfold files; rw [if_pos h]
    rw [h, hE]
    have HS := fun w => size_any b wd w
    have HF := fun w => fan_any b w
    rw [h1] at HS
    rw [hF0] at HF
    rw [h] at HM
    obtain ⟨m, hm⟩ : ∃ m, m = mnN b wd c := ⟨_, rfl⟩
    obtain ⟨n, hn⟩ : ∃ n, n = szN b wd := ⟨_, rfl⟩
    obtain ⟨k, hk⟩ : ∃ k, k = fnN b := ⟨_, rfl⟩
    rw [← hm, ← hn] at h3
    rw [← hm] at HM
    rw [← hn] at HS b5 b6
    rw [← hk] at HF f1 f2
    rw [← hm, ← hn, ← hk]
    have hmb : m ≤ 65536 := by
      rw [h3]
      have := Nat.div_le_self (c + n - 1) n
      rcases Nat.eq_zero_or_pos c with h0 | h0
      · subst h0; have : (0 + n - 1) / n = 0 := Nat.div_eq_of_lt (by omega)
        omega
      · refine Nat.le_trans (Nat.div_le_div_left (show 25 ≤ n by omega) (by omega)) ?_
        omega
    have hsum := frs_sum n c (by omega) m
    have Hfst := Lib.hid (fun w => first_any m n c hmb (by omega) (by omega) h2 w)
    have HM' := Lib.hid HM
    have HS' := Lib.hid HS
    have HF' := Lib.hid HF
    have hfl : (frs m n c).length = m := by simp [frs]
    obtain ⟨FL, hFL⟩ : ∃ FL, FL = fls k (frs m n c) := ⟨_, rfl⟩
    have hFl := fls_len k m (frs m n c) hfl
    rw [← hFL] at hFl ⊢
    have HFl := Lib.hid hFl
    have HFL : Hid ([] ++ fls k (frs m n c) = FL) := hFL.symm
    have HSm : Hid ((frs m n c).sum ≤ 65536) := by show _ ≤ _; rw [hsum]; omega
    clear HM HS HF hE hm hn hk h3 hF0 h1 h b1 b2 hFL hFl hsum
    go_enter Try.func9, Try.ntmps9
    go_wp2_with (first
      | (go_at_call 22; refine (HM'.out w).mono ?_; rintro e w1 ⟨rfl, hw1⟩; obtain rfl : w = w1 := hw1.symm)
      | (go_at_call 27; refine (HS'.out w).mono ?_; rintro e w1 ⟨rfl, hw1⟩; obtain rfl : w = w1 := hw1.symm)
      | (go_at_call 23; refine (HF'.out w).mono ?_; rintro e w1 ⟨rfl, hw1⟩; obtain rfl : w = w1 := hw1.symm)
      | fail)
    refine (Hfst.out w).mono ?_
    rintro e w1 ⟨rfl, hrow, hg1⟩
    simp only []
    go_wp2_with fail
    have hNA := NAt.of_urow hrow hmb
    obtain ⟨v0, hv0⟩ : ∃ v0, v0 = Value.slice (some ⟨w.heap.size, 0, none⟩) m m := ⟨_, rfl⟩
    rw [← hv0] at hNA ⊢
    have HNA : Hid (NAt (w1.alloc (.cells #[v0] 34)) v0 (frs m n c)) := hNA.grown (World.grownBy_alloc w1 _ none)
    have HO : Hid (Owns (w1.alloc (.cells #[v0] 34)) w1.heap.size 34 (.slice (some ⟨w1.heap.size, 0, none⟩) 1 1) [v0]) := World.ownsRow_lit w1 #[v0] 1 (Nat.le_refl _) (by decide) rfl
    have HG2 : Hid (w.grownBy (w1.alloc (.cells #[v0] 34)) none) := grown_trans hg1.out (World.grownBy_alloc w1 _ none)
    obtain ⟨B0, hB0⟩ : ∃ B0, B0 = w1.heap.size := ⟨_, rfl⟩
    have HB2 : Hid (B0 ≤ (w1.alloc (.cells #[v0] 34)).heap.size) := by show _ ≤ _; simp [hB0]
    have HBw : Hid (w.heap.size ≤ B0) := by show _ ≤ _; rw [hB0]; exact hg1.out.size
    rw [← hB0] at HO ⊢
    generalize w1.alloc (.cells #[v0] 34) = w2 at *
    have HA0 : Hid (∀ j, j < 0 + 1 → NAt w2 ([v0].getD j undef) (([] ++ [frs m n c]).getD j [])) := fun j hj => by
      have e : j = 0 := by omega
      subst e
      exact HNA.out
    clear hNA hrow hg1 hB0 hv0 HNA
    go_loopw [14] (fun ov wr => ∃ (q ga cpa : Nat) (vs : List Value) (D : List (List Nat)) (l : List Nat), ov = .slice (some ⟨ga, 0, none⟩) (q + 1) cpa ∧ q ≤ 65536 ∧ Hid (vs.length = q + 1) ∧ Hid (D.length = q) ∧ Hid (Owns wr B0 34 ov vs) ∧ Hid (∀ j, j < q + 1 → NAt wr (vs.getD j undef) ((D ++ [l]).getD j [])) ∧ Hid (D ++ fls k l = FL) ∧ Hid (l.sum ≤ 65536) ∧ Hid (w.grownBy wr none) ∧ Hid (B0 ≤ wr.heap.size)) (fun ov _ => 70000 - lenOf ov)
    case atStart => exact ⟨0, _, 1, [v0], [], frs m n c, rfl, Nat.zero_le _, rfl, rfl, HO, HA0, HFL, HSm, HG2, HB2⟩
    case round =>
      obtain ⟨q, ga, cpa, vs, D, l, rfl, hq, hvs, hD, ho, hna, hfl2, hsm, hg, hB⟩ := hrel
      have hlast := hna.out q (by omega)
      have e1 : (D ++ [l]).getD q [] = l := by rw [← hD.out]; simp [List.getD]
      rw [e1] at hlast
      obtain ⟨lv, hlv⟩ : ∃ lv, lv = vs.getD q undef := ⟨_, rfl⟩
      have cq : wr.cell? ⟨ga, q, none⟩ = some lv := by rw [ho.out.cell q (by rw [hvs.out]; omega), hlv]; simp [List.getD, show q < vs.length by rw [hvs.out]; omega]
      have c00 : Hid (∃ s, (∀ n, s ≠ .int .u64 n) ∧ wr.cell? ⟨ga, 0, none⟩ = some s) := ⟨vs.getD 0 undef, (hna.out 0 (by omega)).slice, by rw [ho.out.cell 0 (by rw [hvs.out]; omega)]; simp [List.getD, show 0 < vs.length by rw [hvs.out]; omega]⟩
      rw [← hlv] at hlast
      have HLa := Lib.hid hlast
      obtain ⟨gl, cl, rfl, hlc, hl6, hcells⟩ := hlast
      have Hcells := Lib.hid hcells
      obtain ⟨ll, hll⟩ : ∃ ll, ll = l.length := ⟨_, rfl⟩
      have Hll := Lib.hid hll
      rw [← hll] at cq hlc hl6
      clear hll hcells hlv e1
      by_cases hlt : k < ll
      · have hlti : (k : Int) < (ll : Int) := by omega
        have HMg : Hid (Calls Try.prog 29 #[.slice (some ⟨gl, 0, none⟩) ll cl, .int .i64 (k : Nat)] wr fun e w' => ∃ v, e = .returned v ∧ Owns w' wr.heap.size 22 v (ncells (mrgL k l)) ∧ Hid (wr.grownBy w' none)) := by
          show Calls _ _ _ _ _
          rw [Hll.out]
          exact merged_any gl cl k l wr Hcells.out (by rw [← Hll.out]; exact hlc) (by rw [← Hll.out]; exact hl6) (by rw [← Hll.out]; omega) (by omega) (by omega) hsm.out
        have Hlt : Hid (k < l.length) := by show _ < _; rw [← Hll.out]; exact hlt
        have Hst : Hid ((D ++ [l]) ++ fls k (mrgL k l) = FL) := by show _ = _; rw [← hfl2.out, fls_step Hlt.out (by omega)]; simp
        have hq2 : q + 1 ≤ 65536 := by
          have h3 := congrArg List.length Hst.out
          have h4 := HFl.out
          rw [List.length_append, List.length_append, hD.out] at h3
          have h5 : 1 ≤ (fls k (mrgL k l)).length := by rw [fls]; split <;> simp
          simp only [List.length_singleton] at h3
          omega
        go_wp2_with fail
        refine HMg.out.mono ?_
        rintro e w5 ⟨v5, rfl, ho5, hg5⟩
        have hml := mrgL_lt Hlt.out (by omega)
        have HN5 : Hid (NAt w5 v5 (mrgL k l)) := NAt.of_owns ho5 (by rw [← Hll.out] at hml; omega) (by rw [mrgL_length]; exact Nat.div_pos (by have := Hlt.out; omega) (by omega))
        obtain ⟨g5, c5, hv5, _⟩ := id HN5.out
        obtain ⟨n5, hn5⟩ : ∃ n5, n5 = (mrgL k l).length := ⟨_, rfl⟩
        rw [← hn5] at hv5
        subst hv5
        have Hvl := Lib.hid hvs.out
        have Ho6 : Hid (Owns w5 B0 34 (.slice (some ⟨ga, 0, none⟩) (q + 1) cpa) vs) := ho.out.kept_of hg5.out (.inl (by intro e; cases e))
        have Hl1 : Hid ((vs.length + 1) * 24 ≤ 140737488355328) := by show _ ≤ _; have := hvs.out; omega
        have Hl2 : Hid (vs.length + 1 ≤ maxLen) := by show _ ≤ _; have := hvs.out; unfold maxLen; omega
        have HBx : Hid (B0 ≤ w5.heap.size) := Nat.le_trans hB.out hg5.out.size
        clear ho5 hn5 cq hml
        simp only []
        go_wp2_with (first
          | (at_builtin; refine wpList_add1 rfl (.tmp 52) (.tmp 56) 23 rfl B0 34 (.slice none 0 0) 24 elemLists _ vs rfl Ho6.out (.slice (some ⟨g5, 0, none⟩) n5 c5) rfl rfl Hl1.out Hl2.out HBx.out ?_; intro g2 cap2 w6 ho6 hg6; have HO6 := Lib.hid ho6; have HG6 := Lib.hid hg6; clear ho6 hg6)
          | fail)
        have hpast : ∀ (x : Value) (lx : List Nat), NAt w5 x lx → NAt w6 x lx := fun x lx hx => by
          obtain ⟨s, hs1, hs2⟩ := c00.out
          exact hx.past (hg5.out.cell hs2 (by simp)) hs1 HG6.out.grown
        have hbl := HG6.out.below Ho6.out HBx.out
        refine ⟨⟨q + 1, g2, cap2, vs ++ [.slice (some ⟨g5, 0, none⟩) n5 c5], D ++ [l], mrgL k l, by rw [hvs.out], by omega, by show _ = _; simp [hvs.out], by show _ = _; simp [hD.out], HO6, ?_, Hst, ?_, grown_bel ((bel_grown (grown_trans hg.out hg5.out) (Nat.le_refl _)).trans (hbl.mono HBw.out)) none, Nat.le_trans HBx.out hbl.size⟩, by simp [lenOf, hvs.out] <;> omega⟩
        · show ∀ j, j < q + 1 + 1 → NAt w6 ((vs ++ [Value.slice (some ⟨g5, 0, none⟩) n5 c5]).getD j undef) ((D ++ [l] ++ [mrgL k l]).getD j [])
          intro j hj
          have hvl := hvs.out
          have hdl := hD.out
          rcases Nat.lt_or_ge j (q + 1) with h | h
          · have e : (vs ++ [Value.slice (some ⟨g5, 0, none⟩) n5 c5]).getD j undef = vs.getD j undef := by simp [List.getD, List.getElem?_append_left (show j < vs.length by omega)]
            have e2 : (D ++ [l] ++ [mrgL k l]).getD j [] = (D ++ [l]).getD j [] := by
              unfold List.getD
              rw [List.getElem?_append_left (show j < (D ++ [l]).length by simp; omega)]
            rw [e, e2]
            exact hpast _ _ ((hna.out j h).grown hg5.out)
          · obtain rfl : j = q + 1 := by omega
            have e : (vs ++ [Value.slice (some ⟨g5, 0, none⟩) n5 c5]).getD (q + 1) undef = .slice (some ⟨g5, 0, none⟩) n5 c5 := by rw [← hvl]; simp [List.getD]
            have e2 : (D ++ [l] ++ [mrgL k l]).getD (q + 1) [] = mrgL k l := by
              have : (D ++ [l]).length = q + 1 := by simp [hdl]
              rw [← this]; simp [List.getD]
            rw [e, e2]
            exact hpast _ _ HN5.out
        · show (mrgL k l).sum ≤ 65536
          rw [mrgL_sum k l (by omega)]; exact hsm.out
      · have hlti : (ll : Int) ≤ (k : Int) := by omega
        have HFe : Hid (FL ++ [[c]] = D ++ [l] ++ [[c]]) := by show _ = _; rw [← hfl2.out, fls_stop (by rw [← Hll.out]; omega)]
        have Ho6 : Hid (Owns (wr.alloc (.cells #[.int .u64 (c : Nat)] 22)) B0 34 (.slice (some ⟨ga, 0, none⟩) (q + 1) cpa) vs) := World.ownsRow.alloc ho.out _
        have Hl1 : Hid ((vs.length + 1) * 24 ≤ 140737488355328) := by show _ ≤ _; have := hvs.out; omega
        have Hl2 : Hid (vs.length + 1 ≤ maxLen) := by show _ ≤ _; have := hvs.out; unfold maxLen; omega
        have HBx : Hid (B0 ≤ (wr.alloc (.cells #[.int .u64 (c : Nat)] 22)).heap.size) := by show _ ≤ _; have := hB.out; simp; omega
        have HNc : Hid (NAt (wr.alloc (.cells #[.int .u64 (c : Nat)] 22)) (.slice (some ⟨wr.heap.size, 0, none⟩) 1 1) [c]) := ⟨wr.heap.size, 1, rfl, Nat.le_refl _, by simp, fun i hi => by
          have e : i = 0 := by simpa using hi
          subst e
          exact row_cell (heap_alloc_new wr _) 0 _ rfl⟩
        have gA := Lib.hid (World.grownBy_alloc wr (.cells #[.int .u64 (c : Nat)] 22) none)
        clear hlt
        go_wp2_with (first
          | (at_builtin; refine wpList_add1 rfl (.tmp 58) (.tmp 61) 23 rfl B0 34 (.slice none 0 0) 24 elemLists _ vs rfl Ho6.out (.slice (some ⟨wr.heap.size, 0, none⟩) 1 1) (by simp [go_sem]) rfl Hl1.out Hl2.out HBx.out ?_; intro g2 cap2 w6 ho6 hg6; have HO6 := Lib.hid ho6; have HG6 := Lib.hid hg6; clear ho6 hg6)
          | fail)
        go_ret2
        have hvl := hvs.out
        have hdl := hD.out
        have hfl3 : (FL ++ [[c]]).length = q + 2 := by rw [HFe.out]; simp [hdl]
        have hbl := HG6.out.below Ho6.out HBx.out
        have hpast : ∀ (x : Value) (lx : List Nat), NAt (wr.alloc (.cells #[.int .u64 (c : Nat)] 22)) x lx → NAt w6 x lx := fun x lx hx => by
          obtain ⟨s, hs1, hs2⟩ := c00.out
          exact hx.past (gA.out.cell hs2 (by simp)) hs1 HG6.out.grown
        have hcp := HO6.out.len_cap
        refine ⟨_, rfl, .inr ⟨g2, cap2, vs ++ [.slice (some ⟨wr.heap.size, 0, none⟩) 1 1], by rw [hfl3, show q + 2 = vs.length + 1 by omega]; rfl, by rw [hfl3]; simp [hvl] at hcp; omega, by omega, fun j hj => ?_, fun j hj => ?_⟩, grown_bel ((bel_grown (grown_trans hg.out gA.out) (Nat.le_refl _)).trans (hbl.mono HBw.out)) none⟩
        · rw [hfl3] at hj
          have hj2 : j < (vs ++ [Value.slice (some ⟨wr.heap.size, 0, none⟩) 1 1]).length := by simp [hvl]; omega
          rw [HO6.out.cell j hj2]
          simp only [List.getD, List.getElem?_eq_getElem hj2, Option.getD_some]
        · rw [hfl3] at hj
          rw [HFe.out]
          rcases Nat.lt_or_ge j (q + 1) with h | h
          · have e : (vs ++ [Value.slice (some ⟨wr.heap.size, 0, none⟩) 1 1]).getD j undef = vs.getD j undef := by simp [List.getD, List.getElem?_append_left (show j < vs.length by omega)]
            have e2 : (D ++ [l] ++ [[c]]).getD j [] = (D ++ [l]).getD j [] := by
              unfold List.getD
              rw [List.getElem?_append_left (show j < (D ++ [l]).length by simp; omega)]
            rw [e, e2]
            exact .inr (hpast _ _ ((hna.out j h).grown gA.out))
          · obtain rfl : j = q + 1 := by omega
            have e : (vs ++ [Value.slice (some ⟨wr.heap.size, 0, none⟩) 1 1]).getD (q + 1) undef = .slice (some ⟨wr.heap.size, 0, none⟩) 1 1 := by rw [← hvl]; simp [List.getD]
            have e2 : (D ++ [l] ++ [[c]]).getD (q + 1) [] = [c] := by
              have : (D ++ [l]).length = q + 1 := by simp [hdl]
              rw [← this]; simp [List.getD]
            rw [e, e2]
            exact .inr (hpast _ _ HNc.out)
  · have hE : files b wd c = [] := by unfold files; rw [if_neg h]
    rw [hE]
    have hb : (mnC b wd c == 0) = false := by simpa using h
    have HM' := Lib.hid HM
    clear HM hE
    go_enter Try.func9, Try.ntmps9
    go_wp2_with (first | (go_at_call 22; refine (HM'.out w).mono ?_; rintro e w1 ⟨rfl, hw1⟩; obtain rfl : w = w1 := hw1.symm) | fail)
    go_ret2
    exact ⟨_, rfl, .inl ⟨rfl, rfl⟩, grown_self _ _⟩
end Go.Proofs.Ytiocmggnmggapaa
