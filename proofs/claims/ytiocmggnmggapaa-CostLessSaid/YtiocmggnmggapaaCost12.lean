/- The walk of the document's Files. -/
import Derived.Test.YtiocmggnmggapaaCost11
namespace Go.Proofs.Ytiocmggnmggapaa
open Go.RowKit CostPlain
set_option linter.unusedVariables false

theorem wpList_add1n {P : Program} {ops : Array Oper} {rest : List Oper} {o : Oper} {a : Act} {w : World} {Q : Exit → Act → World → Prop} (hgd : o.guard = none) (s x : Operand) (t : TypeId)
    (ho : o.op = .call { callee := .builtin .append, args := #[s, x], argTypes := #[t, t] })
    (B : Nat) (e : TypeId) (z : Value) (bytes : Nat) (E : ElemOf P t e z bytes) (v : Value) (xs : List Value) (hs : a.eval s = v) (hown : Owns w B e v xs)
    (y : Value) (hx : a.eval x = .slice (some ⟨w.heap.size, 0, none⟩) 1 1) (h1 : y.oneCell' = true) (N : Nat) (hN : xs.length = N) (hbytes : (N + 1) * bytes ≤ 140737488355328) (h63 : N + 1 ≤ maxLen) (hB : B ≤ w.heap.size)
    (h : ∀ g cap w1, Owns w1 B e (.slice (some ⟨g, 0, none⟩) (N + 1) cap) (xs ++ [y]) → Grew w v w1 (.slice (some ⟨g, 0, none⟩) (N + 1) cap) → wpList P ops Q rest (a.put o.dst (.slice (some ⟨g, 0, none⟩) (N + 1) cap)) w1) :
    wpList P ops Q (o :: rest) a (w.alloc (.cells #[y] e)) := by
  subst hN
  exact wpList_add1 hgd s x t ho B e z bytes E v xs hs hown y hx h1 hbytes h63 hB h
theorem Owns.last {w : World} {B : Nat} {e : TypeId} {g n cap : Nat} {xs : List Value} (h : Owns w B e (.slice (some ⟨g, 0, none⟩) (n + 1) cap) xs) (u : Value) (hu : xs.getD n undef = u) (hl : xs.length = n + 1) : w.cell? ⟨g, n, none⟩ = some u ∧ w.frozen? ⟨g, n, none⟩ = false := by
  refine ⟨?_, ?_⟩
  · rw [h.cell n (by omega), ← hu]; simp [List.getD, show n < xs.length by omega]
  · have h2 := h
    unfold Owns at h2
    rw [hl] at h2
    exact h2.frozenAt n
theorem Owns.store {w : World} {B : Nat} {e : TypeId} {g n cap : Nat} {xs : List Value} (h : Owns w B e (.slice (some ⟨g, 0, none⟩) n cap) xs) (hl : xs.length = n) (j : Nat) (u : Value) : Owns (w.setCell ⟨g, j, none⟩ u) B e (.slice (some ⟨g, 0, none⟩) n cap) (xs.set j u) := by
  subst hl
  have h2 := (World.ownsRow.stored h j u).1
  unfold Owns
  rw [List.length_set]
  exact h2
theorem le_sum {l : List Nat} {x : Nat} (h : x ∈ l) : x ≤ l.sum := by
  induction l with
  | nil => cases h
  | cons a l ih => rw [List.sum_cons]; rcases List.mem_cons.1 h with rfl | h
                   · omega
                   · have := ih h; omega
theorem ncells_set (l : List Nat) (j x : Nat) : ncells (l.set j x) = (ncells l).set j (.int .u64 (x : Nat)) := by unfold ncells; rw [List.map_set]

set_option maxRecDepth 100000 in
set_option maxHeartbeats 8000000 in
theorem rfiles_any (b wd : Int) (c : Nat) (hc : c < 18446744073709551616) (w : World) :
    Calls Try.prog 10 #[.int .i64 b, .int .i64 wd, .int .u64 (c : Nat)] w fun e w' => ∃ v, e = .returned (.tuple #[v, .int .i64 (mnC b wd c)]) ∧ ListsAt w' v (files b wd c) ∧ Hid (w.grownBy w' none) := by
  have HM := fun w => rmany_any b wd c hc w
  by_cases h : mnC b wd c = 0
  · obtain ⟨h1, h2, h3⟩ := mnN_ok h
    obtain ⟨b1, b2, _, _, b5, b6, _⟩ := szN_ok h1
    have hF0 : fnC b = 0 := by unfold fnC; rw [if_neg (by omega), if_neg (by omega)]
    obtain ⟨_, _, f1, f2, _⟩ := fnN_ok hF0
    have hE : files b wd c = fls (fnN b) (frs (mnN b wd c) (szN b wd) c) ++ [[c]] := by unfold files; rw [if_pos h]
    rw [h, hE]
    have HS := fun w => rsize_any b wd w
    have HF := fun w => rfan_any b w
    rw [h1] at HS
    rw [hF0] at HF
    rw [h] at HM
    obtain ⟨m, hm⟩ : ∃ m, m = mnN b wd c := ⟨_, rfl⟩
    obtain ⟨n, hn⟩ : ∃ n, n = szN b wd := ⟨_, rfl⟩
    obtain ⟨k, hk⟩ : ∃ k, k = fnN b := ⟨_, rfl⟩
    rw [← hm, ← hn] at h3
    rw [← hm] at HM
    rw [← hn] at HS b5 b6
    rw [← hk] at HF f1 f2
    rw [← hm, ← hn, ← hk]
    have hmb : m ≤ 65536 := by
      rw [h3]
      have := Nat.div_le_self (c + n - 1) n
      rcases Nat.eq_zero_or_pos c with h0 | h0
      · subst h0; have : (0 + n - 1) / n = 0 := Nat.div_eq_of_lt (by omega)
        omega
      · refine Nat.le_trans (Nat.div_le_div_left (show 25 ≤ n by omega) (by omega)) ?_
        omega
    have hsum := frs_sum n c (by omega) m
    have HM' := Lib.hid HM
    have HS' := Lib.hid HS
    have HF' := Lib.hid HF
    have hfl : (frs m n c).length = m := by simp [frs]
    obtain ⟨FL, hFL⟩ : ∃ FL, FL = fls k (frs m n c) := ⟨_, rfl⟩
    have hFl := fls_len k m (frs m n c) hfl
    rw [← hFL] at hFl ⊢
    have HFl := Lib.hid hFl
    have HFL : Hid ([] ++ fls k (frs m n c) = FL) := hFL.symm
    have HSm : Hid ((frs m n c).sum ≤ 65536) := by show _ ≤ _; rw [hsum]; omega
    have hm8 : (m : Int) ≤ 65536 := by omega
    have hwn : IntKind.u64.wrap (n : Int) = (n : Int) := wrap64u_in _ (by omega) (by omega)
    clear HM HS HF hE hm hn hk h3 hF0 h1 h b1 b2 hFL hFl hsum
    go_enter Try.func10, Try.ntmps10
    go_wp2_with (first
      | (go_at_call 30; refine (HM'.out w).mono ?_; rintro e w1 ⟨rfl, hw1⟩; obtain rfl : w = w1 := hw1.symm)
      | (go_at_call 31; refine (HS'.out w).mono ?_; rintro e w1 ⟨rfl, hw1⟩; obtain rfl : w = w1 := hw1.symm)
      | (go_at_call 32; refine (HF'.out w).mono ?_; rintro e w1 ⟨rfl, hw1⟩; obtain rfl : w = w1 := hw1.symm)
      | fail)
    go_loopw [14, 15, 16] (fun nv lv iv wr => ∃ (i left : Nat), iv = .int .i64 (i : Nat) ∧ i ≤ m ∧ lv = .int .u64 (left : Nat) ∧ left ≤ c ∧ Hid (left = c - i * n) ∧ Hid (Owns wr w.heap.size 22 nv (ncells (frs i n c))) ∧ Hid (w.grownBy wr none)) (fun _ _ iv _ => m - (intOf iv).toNat)
    case atStart => exact ⟨0, c, rfl, Nat.zero_le _, rfl, Nat.le_refl _, by show _ = _; simp, Owns.nil _ _ _, grown_self _ _⟩
    case round =>
      obtain ⟨i, left, rfl, hi, rfl, hlc, hl, ho, hg⟩ := hrel
      by_cases hlt : i < m
      · obtain ⟨x, hx⟩ : ∃ x, x = min left n := ⟨_, rfl⟩
        have hmin : (if n < left then (n : Int) else (left : Int)) = (x : Int) := by split <;> omega
        have hxl : x ≤ left := by omega
        have Hl2 : Hid (left - x = c - (i + 1) * n) := by show _ = _; have := hl.out; rw [Nat.succ_mul]; omega
        have Hx : Hid (frs (i + 1) n c = frs i n c ++ [x]) := by show _ = _; unfold frs; rw [List.range_succ, List.map_append, hx, hl.out]; rfl
        have hii : (i : Int) < (m : Int) := by omega
        have hw1 : IntKind.u64.wrap ((left : Int) - (x : Int)) = ((left - x : Nat) : Int) := by rw [wrap64u_in _ (by omega) (by omega)]; omega
        have hfi : (frs i n c).length = i := by simp [frs]
        have Hl1 : Hid (((ncells (frs i n c)).length + 1) * 8 ≤ 140737488355328) := by show _ ≤ _; rw [ncells_length, hfi]; omega
        have Hl3 : Hid ((ncells (frs i n c)).length + 1 ≤ maxLen) := by show _ ≤ _; rw [ncells_length, hfi]; unfold maxLen; omega
        have HBx := Lib.hid hg.out.size
        clear hx
        go_wp2_with (first
          | (at_builtin; refine wpList_add1 rfl (.tmp 53) (.tmp 55) 34 rfl w.heap.size 22 (.int .u64 0) 8 elemNums _ (ncells (frs i n c)) rfl ho.out (.int .u64 (x : Nat)) rfl rfl Hl1.out Hl3.out HBx.out ?_; intro g2 cap2 w6 ho6 hg6; have HO6 := Lib.hid ho6; have HG6 := Lib.hid hg6; clear ho6 hg6)
          | fail)
        refine ⟨⟨i + 1, left - x, by rw [Int.natCast_add]; rfl, by omega, rfl, by omega, Hl2, ?_, grown_bel ((bel_grown hg.out (Nat.le_refl _)).trans (HG6.out.below ho.out HBx.out)) none⟩, by simp [intOf] <;> omega⟩
        show Owns _ _ _ _ _
        rw [Hx.out, ncells_append]; exact HO6.out
      · obtain rfl : i = m := by omega
        have HN0 : Hid (NAt0 wr u14 (frs i n c)) := by
          rcases Nat.eq_zero_or_pos i with h0 | h0
          · subst h0
            rcases ho.out.shape with ⟨h1, _⟩ | ⟨g', cap', h1, h2, _⟩
            · exact .inl ⟨h1, rfl⟩
            · exact .inr ⟨g', cap', h1, Nat.zero_le _, by simp [frs], fun j hj => by simp [frs] at hj⟩
          · exact .inr (NAt.of_owns ho.out (by omega) (by omega))
        obtain ⟨a14, c14, e14, _⟩ := id HN0.out.nums
        rw [hfl] at e14
        subst e14
        clear ho hl hlc hlt
        go_wp2_with fail
        have HNA : Hid (NAt0 (wr.alloc (.cells #[.slice a14 i c14] 34)) (.slice a14 i c14) (frs i n c)) := HN0.out.grown (World.grownBy_alloc wr _ none)
        have HO : Hid (Owns (wr.alloc (.cells #[.slice a14 i c14] 34)) w.heap.size 34 (.slice (some ⟨wr.heap.size, 0, none⟩) 1 1) [.slice a14 i c14]) := World.ownsRow.mono (World.ownsRow_lit wr #[.slice a14 i c14] 1 (Nat.le_refl _) (by decide) rfl) hg.out.size
        have HG2 : Hid (w.grownBy (wr.alloc (.cells #[.slice a14 i c14] 34)) none) := grown_trans hg.out (World.grownBy_alloc wr _ none)
        have HA0 : Hid (∀ j, j < 0 + 1 → NAt0 (wr.alloc (.cells #[.slice a14 i c14] 34)) ([Value.slice a14 i c14].getD j undef) (([] ++ [frs i n c]).getD j [])) := fun j hj => by
          have e : j = 0 := by omega
          subst e
          exact HNA.out
        generalize wr.alloc (.cells #[.slice a14 i c14] 34) = w2 at *
        clear HN0 HNA hg
        go_loopw [14, 18] (fun nv ov wr => ∃ (q ga cpa : Nat) (vs : List Value) (D : List (List Nat)) (l : List Nat), ov = .slice (some ⟨ga, 0, none⟩) (q + 1) cpa ∧ q ≤ 65536 ∧ nv = vs.getD q undef ∧ Hid (vs.length = q + 1) ∧ Hid (D.length = q) ∧ Hid (Owns wr w.heap.size 34 ov vs) ∧ Hid (∀ j, j < q + 1 → NAt0 wr (vs.getD j undef) ((D ++ [l]).getD j [])) ∧ Hid (D ++ fls k l = FL) ∧ Hid (l.sum ≤ 65536) ∧ Hid (l.length ≤ 65536) ∧ Hid (w.grownBy wr none)) (fun _ ov _ => 70000 - lenOf ov)
        case atStart => exact ⟨0, _, 1, [.slice a14 i c14], [], frs i n c, rfl, Nat.zero_le _, rfl, rfl, rfl, HO, HA0, HFL, HSm, by show _ ≤ _; omega, HG2⟩
        case round =>
          clear HO HA0 HFL HSm HG2
          obtain ⟨q, ga, cpa, vs, D, l, rfl, hq, hnv, hvs, hD, ho, hna, hfl2, hsm, hl6, hg⟩ := hrel
          have hlast := hna.out q (by omega)
          have e1 : (D ++ [l]).getD q [] = l := by rw [← hD.out]; simp [List.getD]
          rw [e1] at hlast
          have c00 : Hid (∃ s, (∀ n, s ≠ .int .u64 n) ∧ wr.cell? ⟨ga, 0, none⟩ = some s) := ⟨vs.getD 0 undef, (hna.out 0 (by omega)).slice, by rw [ho.out.cell 0 (by rw [hvs.out]; omega)]; simp [List.getD, show 0 < vs.length by rw [hvs.out]; omega]⟩
          rw [← hnv] at hlast
          have HLa := Lib.hid hlast
          obtain ⟨al, cl, rfl, _, hcells⟩ := hlast.nums
          have Hcells := Lib.hid hcells
          obtain ⟨ll, hll⟩ : ∃ ll, ll = l.length := ⟨_, rfl⟩
          have Hll := Lib.hid hll
          have Hnv := Lib.hid hnv
          have hl7 := hl6.out
          rw [← hll] at hl7
          rw [← hll] at HLa Hnv ⊢
          clear hll hcells hlast e1 hnv
          by_cases hlt : k < ll
          · have hlti : (k : Int) < (ll : Int) := by omega
            have Hlt : Hid (k < l.length) := by show _ < _; rw [← Hll.out]; exact hlt
            have Hst : Hid ((D ++ [l]) ++ fls k (mrgL k l) = FL) := by show _ = _; rw [← hfl2.out, fls_step Hlt.out (by omega)]; simp
            have hq2 : q + 1 ≤ 65536 := by
              have h3 := congrArg List.length Hst.out
              have h4 := HFl.out
              rw [List.length_append, List.length_append, hD.out] at h3
              have h5 : 1 ≤ (fls k (mrgL k l)).length := by rw [fls]; split <;> simp
              simp only [List.length_singleton] at h3
              omega
            go_wp2_with fail
            obtain ⟨wB, hwB⟩ : ∃ wB, wB = wr := ⟨_, rfl⟩
            rw [← hwB] at ho hna hg c00 HLa Hcells ⊢
            clear hwB
            have Hkl : Hid (∀ W, wB.grownBy W none → ∀ j, j < ll → ∃ (x : Addr) (y : Nat), al = some x ∧ W.cell? (x.add j) = some (.int .u64 (y : Nat)) ∧ l.take (j + 1) = l.take j ++ [y] ∧ (mrgL k (l.take (j + 1))).sum ≤ 65536) := fun W hW j hj => by
              obtain ⟨x, h1, h2⟩ := Hcells.out j (by rw [← Hll.out]; exact hj)
              refine ⟨x, _, h1, hW.cell h2 (by simp), List.take_succ_eq_append_getElem (by rw [← Hll.out]; exact hj), ?_⟩
              rw [mrgL_sum k _ (by omega)]
              have := sum_take_drop_le l 0 (j + 1)
              rw [List.drop_zero] at this
              exact Nat.le_trans this hsm.out
            have hl7' : (ll : Int) ≤ 65536 := by omega
            have hk0 : ¬ (k : Int) = 0 := by omega
            go_loopw [19, 68] (fun xv iv W => ∃ i2 : Nat, iv = .int .i64 (i2 : Nat) ∧ i2 ≤ ll ∧ Hid (Owns W wB.heap.size 22 xv (ncells (mrgL k (l.take i2)))) ∧ Hid (wB.grownBy W none)) (fun _ iv _ => ll - (intOf iv).toNat)
            case atStart => exact ⟨0, rfl, Nat.zero_le _, by show Owns _ _ _ _ _; rw [show mrgL k (l.take 0) = [] by simp [mrgL]; omega]; exact Owns.nil _ _ _, grown_self _ _⟩
            case round =>
              obtain ⟨i2, rfl, hi2, hox, hgx⟩ := hrel
              by_cases hlt2 : i2 < ll
              · obtain ⟨x, y, rfl, cy, htk, hms⟩ := Hkl.out wr hgx.out i2 hlt2
                have hi2i : (i2 : Int) < (ll : Int) := by omega
                have htl : (l.take i2).length = i2 := by rw [List.length_take, ← Hll.out]; omega
                by_cases hmod : i2 % k = 0
                · have hmi : (i2 : Int) % (k : Int) = 0 := by omega
                  have Hnew : Hid (mrgL k (l.take (i2 + 1)) = mrgL k (l.take i2) ++ [y]) := by show _ = _; rw [htk]; exact mrgL_new k _ y (by omega) (by rw [htl]; exact hmod)
                  obtain ⟨P, hP⟩ : ∃ P, P = mrgL k (l.take i2) := ⟨_, rfl⟩
                  rw [← hP] at hox Hnew
                  have hy : y ≤ 65536 := by have h9 := hms; rw [Hnew.out, List.sum_append] at h9; simp at h9; omega
                  obtain ⟨p, hp⟩ : ∃ p, p = P.length := ⟨_, rfl⟩
                  have hpl : p ≤ 70000 := by rw [hp, hP, mrgL_length, htl]; have := Nat.div_le_self (i2 + k - 1) k; omega
                  have HL : Hid ((ncells P).length = p) := by show _ = _; rw [ncells_length]; exact hp.symm
                  have HL6 : Hid ((ncells P ++ [Value.int .u64 0]).length = p + 1) := by show _ = _; rw [List.length_append, HL.out]; rfl
                  have HD6 : Hid ((ncells P ++ [Value.int .u64 0]).getD p undef = .int .u64 0) := by show _ = _; rw [← HL.out]; simp [List.getD]
                  have HBx : Hid (wB.heap.size ≤ wr.heap.size) := hgx.out.size
                  have hw1 : IntKind.u64.wrap ((0 : Int) + (y : Int)) = (y : Int) := by rw [Int.zero_add]; exact wrap64u_in _ (by omega) (by omega)
                  have hw2 : IntKind.u64.wrap (y : Int) = (y : Int) := wrap64u_in _ (by omega) (by omega)
                  have hb1 : Hid ((p + 1) * 8 ≤ 140737488355328) := by show _ ≤ _; omega
                  have hb2 : Hid (p + 1 ≤ maxLen) := by show _ ≤ _; unfold maxLen; omega
                  have Htk := Lib.hid htk
                  have Hms := Lib.hid hms
                  clear hP hp htk hms htl
                  go_wp2_with (first
                    | (at_builtin; refine wpList_add1n rfl (.tmp 77) (.tmp 78) 34 rfl wB.heap.size 22 (.int .u64 0) 8 elemNums _ (ncells P) rfl hox.out (.int .u64 0) rfl rfl p HL.out hb1.out hb2.out HBx.out ?_; intro g2 cap2 w6 ho6 hg6; obtain ⟨c6, f6⟩ := ho6.last (.int .u64 0) HD6.out HL6.out; have HO6 := Lib.hid ho6; have HG6 := Lib.hid hg6; clear ho6 hg6)
                    | fail)
                  have hbl := HG6.out.below hox.out HBx.out
                  refine ⟨⟨i2 + 1, by rw [Int.natCast_add]; rfl, by omega, ?_, grown_bel (((bel_grown hgx.out (Nat.le_refl _)).trans hbl).grown (grown_setCell w6 ⟨g2, p, none⟩ _) (Nat.le_trans HBx.out hbl.size) (fun q e => by injection e with e; simp only at e; subst e; exact (HO6.out.block_lt _ rfl).1)) none⟩, by simp [intOf] <;> omega⟩
                  show Owns _ _ _ _ _
                  rw [Hnew.out, ncells_append]
                  have h9 := HO6.out.store HL6.out p (.int .u64 (y : Nat))
                  rw [show (ncells P ++ [Value.int .u64 0]).set p (.int .u64 (y : Nat)) = ncells P ++ ncells [y] by rw [← HL.out]; simp [ncells]] at h9
                  exact h9
                · have hmi : ¬ (i2 : Int) % (k : Int) = 0 := by omega
                  obtain ⟨hp0, hmore⟩ := mrgL_more k (l.take i2) y (by omega) (by rw [htl]; exact hmod)
                  rw [← htk] at hmore
                  obtain ⟨P, hP⟩ : ∃ P, P = mrgL k (l.take i2) := ⟨_, rfl⟩
                  rw [← hP] at hox hmore hp0
                  obtain ⟨p, hp⟩ : ∃ p, P.length = p + 1 := ⟨P.length - 1, by omega⟩
                  have hpl : p ≤ 70000 := by
                    have h9 : P.length ≤ i2 + k - 1 := by rw [hP, mrgL_length, htl]; exact Nat.div_le_self _ _
                    omega
                  rw [hp, Nat.add_sub_cancel] at hmore
                  obtain ⟨x, hx⟩ : ∃ x, x = P.getD p 0 := ⟨_, rfl⟩
                  rw [← hx] at hmore
                  have hxy : x + y ≤ 65536 := by
                    have h9 : x + y ∈ mrgL k (l.take (i2 + 1)) := by
                      rw [hmore]; exact List.mem_set (by omega) _
                    exact Nat.le_trans (le_sum h9) hms
                  have HL6 : Hid ((ncells P).length = p + 1) := by show _ = _; rw [ncells_length]; exact hp
                  have HD6 : Hid ((ncells P).getD p undef = .int .u64 (x : Nat)) := by show _ = _; rw [hx]; unfold ncells; simp [List.getD, show p < P.length by omega]
                  have HBx : Hid (wB.heap.size ≤ wr.heap.size) := hgx.out.size
                  have hw1 : IntKind.u64.wrap ((x : Int) + (y : Int)) = ((x + y : Nat) : Int) := by rw [Int.natCast_add]; exact wrap64u_in _ (by omega) (by omega)
                  have Hmore := Lib.hid hmore
                  obtain ⟨ax, capx, hxv⟩ : ∃ ax capx, u19 = .slice (some ⟨ax, 0, none⟩) (p + 1) capx := by
                    rcases hox.out.shape with ⟨_, h9⟩ | ⟨g, cap, h9, _⟩
                    · have := congrArg List.length h9; rw [HL6.out] at this; simp at this
                    · rw [HL6.out] at h9; exact ⟨g, cap, h9⟩
                  subst hxv
                  obtain ⟨c6, f6⟩ := hox.out.last _ HD6.out HL6.out
                  have Htk := Lib.hid htk
                  have Hms := Lib.hid hms
                  clear hP hp htk hms htl hmore hx hp0
                  go_wp2_with fail
                  refine ⟨⟨i2 + 1, by rw [Int.natCast_add]; rfl, by omega, ?_, grown_bel ((bel_grown hgx.out (Nat.le_refl _)).grown (grown_setCell wr ⟨ax, p, none⟩ _) HBx.out (fun q e => by injection e with e; simp only at e; subst e; exact (hox.out.block_lt _ rfl).1)) none⟩, by simp [intOf] <;> omega⟩
                  show Owns _ _ _ _ _
                  rw [Hmore.out, ncells_set]
                  exact hox.out.store HL6.out p _
              · obtain rfl : i2 = ll := by omega
                have htl : l.take i2 = l := by rw [Hll.out]; exact List.take_length
                rw [htl] at hox
                have hml := mrgL_lt Hlt.out (by omega)
                have HN5 : Hid (NAt wr u19 (mrgL k l)) := NAt.of_owns hox.out (by rw [← Hll.out] at hml; omega) (by rw [mrgL_length]; exact Nat.div_pos (by have := Hlt.out; omega) (by omega))
                obtain ⟨g5, c5, hv5, _⟩ := id HN5.out
                obtain ⟨n5, hn5⟩ : ∃ n5, n5 = (mrgL k l).length := ⟨_, rfl⟩
                rw [← hn5] at hv5
                subst hv5
                have Ho6 : Hid (Owns wr w.heap.size 34 (.slice (some ⟨ga, 0, none⟩) (q + 1) cpa) vs) := ho.out.kept_of hgx.out (.inl (by intro e; cases e))
                have Hl1 : Hid ((q + 1 + 1) * 24 ≤ 140737488355328) := by show _ ≤ _; omega
                have Hl2 : Hid (q + 1 + 1 ≤ maxLen) := by show _ ≤ _; unfold maxLen; omega
                have HBx : Hid (w.heap.size ≤ wr.heap.size) := Nat.le_trans hg.out.size hgx.out.size
                clear hn5 hml htl hlt2 hi2 hox
                go_wp2_with (first
                  | (at_builtin; refine wpList_add1n rfl (.tmp 90) (.tmp 92) 23 rfl w.heap.size 34 (.slice none 0 0) 24 elemLists _ vs rfl Ho6.out (.slice (some ⟨g5, 0, none⟩) n5 c5) rfl rfl (q + 1) hvs.out Hl1.out Hl2.out HBx.out ?_; intro g2 cap2 w6 ho6 hg6; have HO6 := Lib.hid ho6; have HG6 := Lib.hid hg6; clear ho6 hg6)
                  | fail)
                have hpast : ∀ (x : Value) (lx : List Nat), NAt0 wr x lx → NAt0 w6 x lx := fun x lx hx => by
                  obtain ⟨s, hs1, hs2⟩ := c00.out
                  exact hx.past (hgx.out.cell hs2 (by simp)) hs1 HG6.out.grown
                have hbl := HG6.out.below Ho6.out HBx.out
                have e5 : (vs ++ [Value.slice (some ⟨g5, 0, none⟩) n5 c5]).getD (q + 1) undef = .slice (some ⟨g5, 0, none⟩) n5 c5 := by rw [← hvs.out]; simp [List.getD]
                refine ⟨⟨q + 1, g2, cap2, vs ++ [.slice (some ⟨g5, 0, none⟩) n5 c5], D ++ [l], mrgL k l, rfl, by omega, e5.symm, by show _ = _; simp [hvs.out], by show _ = _; simp [hD.out], HO6, ?_, Hst, ?_, ?_, grown_bel ((bel_grown (grown_trans hg.out hgx.out) (Nat.le_refl _)).trans hbl) none⟩, by simp [lenOf] <;> omega⟩
                · show ∀ j, j < q + 1 + 1 → NAt0 w6 ((vs ++ [Value.slice (some ⟨g5, 0, none⟩) n5 c5]).getD j undef) ((D ++ [l] ++ [mrgL k l]).getD j [])
                  intro j hj
                  have hvl := hvs.out
                  have hdl := hD.out
                  rcases Nat.lt_or_ge j (q + 1) with h | h
                  · have e : (vs ++ [Value.slice (some ⟨g5, 0, none⟩) n5 c5]).getD j undef = vs.getD j undef := by simp [List.getD, List.getElem?_append_left (show j < vs.length by omega)]
                    have e2 : (D ++ [l] ++ [mrgL k l]).getD j [] = (D ++ [l]).getD j [] := by
                      unfold List.getD
                      rw [List.getElem?_append_left (show j < (D ++ [l]).length by simp; omega)]
                    rw [e, e2]
                    exact hpast _ _ ((hna.out j h).grown hgx.out)
                  · obtain rfl : j = q + 1 := by omega
                    have e2 : (D ++ [l] ++ [mrgL k l]).getD (q + 1) [] = mrgL k l := by
                      have : (D ++ [l]).length = q + 1 := by simp [hdl]
                      rw [← this]; simp [List.getD]
                    rw [e5, e2]
                    exact hpast _ _ (.inr HN5.out)
                · show (mrgL k l).sum ≤ 65536
                  rw [mrgL_sum k l (by omega)]; exact hsm.out
                · show (mrgL k l).length ≤ 65536
                  have := mrgL_lt Hlt.out (by omega)
                  have := hl6.out
                  omega
          · have hlti : (ll : Int) ≤ (k : Int) := by omega
            have HFe : Hid (FL ++ [[c]] = D ++ [l] ++ [[c]]) := by show _ = _; rw [← hfl2.out, fls_stop (by rw [← Hll.out]; omega)]
            have Ho6 : Hid (Owns (wr.alloc (.cells #[.int .u64 (c : Nat)] 22)) w.heap.size 34 (.slice (some ⟨ga, 0, none⟩) (q + 1) cpa) vs) := World.ownsRow.alloc ho.out _
            have Hl1 : Hid ((q + 1 + 1) * 24 ≤ 140737488355328) := by show _ ≤ _; omega
            have Hl2 : Hid (q + 1 + 1 ≤ maxLen) := by show _ ≤ _; unfold maxLen; omega
            have HBx : Hid (w.heap.size ≤ (wr.alloc (.cells #[.int .u64 (c : Nat)] 22)).heap.size) := by show _ ≤ _; have := hg.out.size; simp; omega
            have HNc : Hid (NAt (wr.alloc (.cells #[.int .u64 (c : Nat)] 22)) (.slice (some ⟨wr.heap.size, 0, none⟩) 1 1) [c]) := ⟨wr.heap.size, 1, rfl, Nat.le_refl _, by simp, fun i hi => by
              have e : i = 0 := by simpa using hi
              subst e
              exact row_cell (heap_alloc_new wr _) 0 _ rfl⟩
            have gA := Lib.hid (World.grownBy_alloc wr (.cells #[.int .u64 (c : Nat)] 22) none)
            clear hlt
            go_wp2_with (first
              | (at_builtin; refine wpList_add1n rfl (.tmp 95) (.tmp 98) 23 rfl w.heap.size 34 (.slice none 0 0) 24 elemLists _ vs rfl Ho6.out (.slice (some ⟨wr.heap.size, 0, none⟩) 1 1) (by simp [go_sem]) rfl (q + 1) hvs.out Hl1.out Hl2.out HBx.out ?_; intro g2 cap2 w6 ho6 hg6; have HO6 := Lib.hid ho6; have HG6 := Lib.hid hg6; clear ho6 hg6)
              | fail)
            go_ret2
            have hvl := hvs.out
            have hdl := hD.out
            have hfl3 : (FL ++ [[c]]).length = q + 2 := by rw [HFe.out]; simp [hdl]
            have hbl := HG6.out.below Ho6.out HBx.out
            have hpast : ∀ (x : Value) (lx : List Nat), NAt0 (wr.alloc (.cells #[.int .u64 (c : Nat)] 22)) x lx → NAt0 w6 x lx := fun x lx hx => by
              obtain ⟨s, hs1, hs2⟩ := c00.out
              exact hx.past (gA.out.cell hs2 (by simp)) hs1 HG6.out.grown
            have hcp := HO6.out.len_cap
            refine ⟨_, rfl, .inr ⟨g2, cap2, vs ++ [.slice (some ⟨wr.heap.size, 0, none⟩) 1 1], by rw [hfl3]; rfl, by rw [hfl3]; simp [hvl] at hcp; omega, by omega, fun j hj => ?_, fun j hj => ?_⟩, grown_bel ((bel_grown (grown_trans hg.out gA.out) (Nat.le_refl _)).trans hbl) none⟩
            · rw [hfl3] at hj
              have hj2 : j < (vs ++ [Value.slice (some ⟨wr.heap.size, 0, none⟩) 1 1]).length := by simp [hvl]; omega
              rw [HO6.out.cell j hj2]
              simp only [List.getD, List.getElem?_eq_getElem hj2, Option.getD_some]
            · rw [hfl3] at hj
              rw [HFe.out]
              rcases Nat.lt_or_ge j (q + 1) with h | h
              · have e : (vs ++ [Value.slice (some ⟨wr.heap.size, 0, none⟩) 1 1]).getD j undef = vs.getD j undef := by simp [List.getD, List.getElem?_append_left (show j < vs.length by omega)]
                have e2 : (D ++ [l] ++ [[c]]).getD j [] = (D ++ [l]).getD j [] := by
                  unfold List.getD
                  rw [List.getElem?_append_left (show j < (D ++ [l]).length by simp; omega)]
                rw [e, e2]
                exact hpast _ _ ((hna.out j h).grown gA.out)
              · obtain rfl : j = q + 1 := by omega
                have e : (vs ++ [Value.slice (some ⟨wr.heap.size, 0, none⟩) 1 1]).getD (q + 1) undef = .slice (some ⟨wr.heap.size, 0, none⟩) 1 1 := by rw [← hvl]; simp [List.getD]
                have e2 : (D ++ [l] ++ [[c]]).getD (q + 1) [] = [c] := by
                  have : (D ++ [l]).length = q + 1 := by simp [hdl]
                  rw [← this]; simp [List.getD]
                rw [e, e2]
                exact hpast _ _ (.inr HNc.out)
  · have hE : files b wd c = [] := by unfold files; rw [if_neg h]
    rw [hE]
    have hb : (mnC b wd c == 0) = false := by simpa using h
    have HM' := Lib.hid HM
    clear HM hE
    go_enter Try.func10, Try.ntmps10
    go_wp2_with (first | (go_at_call 30; refine (HM'.out w).mono ?_; rintro e w1 ⟨rfl, hw1⟩; obtain rfl : w = w1 := hw1.symm) | fail)
    go_ret2
    exact ⟨_, rfl, .inl ⟨rfl, rfl⟩, grown_self _ _⟩
end Go.Proofs.Ytiocmggnmggapaa
