/- canon's Write. -/
import Derived.Test.YtidmmcgnghdfdaaDoorCoded7
namespace Go.Proofs.YtidmmcgnghdfdaaDoor
open Go.RowKit SortPlain PackPlain CanonPlain BitsPlain
set_option linter.unusedVariables false

theorem sym_room (X S : List Nat) (i : Nat) (hi : i < S.length) : symBits X (S.take (i + 1)) = symBits X (S.take i) ++ bitsOf (codeAt X S[i]) (X.getD S[i] 0) ∧ (symBits X (S.take i)).length + X.getD S[i] 0 ≤ (symBits X S).length := by
  have h := sym_next X S [] i hi
  refine ⟨?_, by have h1 := h.2.1; have h2 := h.2.2; omega⟩
  rw [List.take_succ_eq_append_getElem hi, symBits_append, symBits, symBits, List.append_nil]

theorem grown_chain {w2 w3 w4 : World} {B : Nat} (hB : B = w2.heap.size) (h : w2.grownBy w3 none) (hb : Below B w3 w4) : w2.grownBy w4 none := by
  subst hB
  exact grown_bel ((bel_grown h (Nat.le_refl _)).trans hb) none

set_option maxRecDepth 100000 in
set_option maxHeartbeats 8000000 in
theorem cwrite_any (vx vs : Value) (X S : List Nat) (b : ByteArray) (m : List Bool) (w : World) (hx : IntsAt w vx X) (hs : NumsAt w vs S) (hok : CodeOk X) (hm : IsBits b.data.toList m) (hS : ∀ x ∈ S, x < X.length ∧ 1 ≤ X.getD x 0) (hml : m.length + (symBits X S).length ≤ 1048576) :
    Calls Tryd.prog 7 #[.agg #[.string b, .int .i64 (m.length : Nat)], vx, vs] w fun e w' => ∃ B', IsBits B' (m ++ symBits X S) ∧ e = .returned (.tuple #[.agg #[.string ⟨B'.toArray⟩, .int .i64 ((m ++ symBits X S).length : Nat)], .int .i64 0]) ∧ Hid (w.grownBy w' none) := by
  have HS2 : Hid ((Tryd.prog.info? 31).map (·.size) = some 2) := Lib.hid (by kernel_rfl)
  have Hchk := Lib.hid (fun w => check_good b m w hm (by omega))
  have HO : Hid (∀ W, w.grownBy W none → Calls Tryd.prog 23 #[vx] W fun e w' => ∃ b, e = .returned (.tuple #[.pointer (some ⟨b, 0, none⟩), .int .i64 0]) ∧ Hid (BookAt w' b X vx) ∧ Hid (W.grownBy w' none)) := fun W hW => open_any vx X W (hx.grown hW) hok
  have HCd : Hid (∀ (W : World) (bk x : Nat), w.grownBy W none → BookAt W bk X vx → x < X.length → 1 ≤ X.getD x 0 → Calls Tryd.prog 26 #[.pointer (some ⟨bk, 0, none⟩), .int .i64 (x : Nat)] W fun e w' => e = .returned (.tuple #[.int .u64 (codeAt X x : Nat), .int .i64 (X.getD x 0 : Nat)]) ∧ Hid (W.grownBy w' none)) := fun W bk x hW hb h1 h2 => code_any bk vx X x W hb (hx.grown hW) h1 hok.le h2 hok.len
  have HGc : Hid (∀ x, x < X.length → 1 ≤ X.getD x 0 → codeAt X x ≤ 32768) := fun x h1 h2 => by
    have h3 := hok.le x
    have h4 := code_lt X x (X.getD x 0) (by simp [List.getD, h1]) h2
    have h5 := gc_lt hok (X.getD x 0) h3
    omega
  have HLe : Hid (∀ x, X.getD x 0 ≤ 15) := hok.le
  have hXl := hok.len
  obtain ⟨ax, cx, rfl, _, hcx⟩ := hx
  obtain ⟨av, cs, rfl, hNm, hcs⟩ := hs
  have HV : Hid (∀ W : World, w.grownBy W none → ∀ i, i < S.length → ∃ (q : Addr) (g x L : Nat), av = some q ∧ ax = some ⟨g, 0, none⟩ ∧ W.cell? (q.add i) = some (.int .u64 (x : Nat)) ∧ W.cell? ⟨g, x, none⟩ = some (.int .i64 (L : Nat)) ∧ x < X.length ∧ L = X.getD x 0 ∧ 1 ≤ L ∧ L ≤ 15 ∧ symBits X (S.take (i + 1)) = symBits X (S.take i) ++ bitsOf (codeAt X x) L ∧ (symBits X (S.take i)).length + L ≤ (symBits X S).length) := fun W hW i hi => by
    obtain ⟨q, h1, h2⟩ := hcs i hi
    obtain ⟨h3, h4⟩ := hS S[i] (List.getElem_mem hi)
    obtain ⟨g, h5, h6⟩ := hcx S[i] h3
    have e : X.getD S[i] 0 = X[S[i]] := by simp [List.getD, h3]
    obtain ⟨h7, h8⟩ := sym_room X S i hi
    refine ⟨q, g, S[i], X.getD S[i] 0, h1, h5, hW.cell h2 (by simp), ?_, h3, rfl, h4, HLe.out _, h7, h8⟩
    rw [e]
    exact hW.cell h6 (by simp)
  have Hm := Lib.hid hm
  clear hcx hcs hok hm hS
  obtain ⟨n, hn⟩ : ∃ n : Nat, n = m.length := ⟨_, rfl⟩
  rw [← hn] at Hchk hml ⊢
  have Hn := Lib.hid hn
  obtain ⟨T, hT⟩ : ∃ T, T = (symBits X S).length := ⟨_, rfl⟩
  rw [← hT] at hml HV
  have HT := Lib.hid hT
  obtain ⟨N, hN⟩ : ∃ N, N = S.length := ⟨_, rfl⟩
  have HN := Lib.hid hN
  rw [← hN] at HV hNm ⊢
  obtain ⟨M, hM⟩ : ∃ M, M = X.length := ⟨_, rfl⟩
  rw [← hM] at HV HO HCd HGc hXl ⊢
  clear hn hT hM hN
  have hMi : (M : Int) ≤ 512 := by omega
  have hNi : (N : Int) ≤ 9223372036854775807 := by unfold maxLen at hNm; omega
  have hMw : IntKind.u64.wrap (M : Int) = (M : Int) := wrap64u_in _ (by omega) (by omega)
  clear hNm
  go_enter Tryd.func7, Tryd.ntmps7
  go_wp2_with fail
  have hgw : w.grownBy ((w.alloc (.cells #[.string b, .int .i64 (n : Nat)] 31)).alloc (.cells #[.string ⟨#[]⟩, .int .i64 0] 31)) none := grown_trans (World.grownBy_alloc _ _ _) (World.grownBy_alloc _ _ _)
  have hf := two_blocks w (.cells #[.string b, .int .i64 (n : Nat)] 31) (.cells #[.string ⟨#[]⟩, .int .i64 0] 31)
  generalize ((w.alloc (.cells #[.string b, .int .i64 (n : Nat)] 31)).alloc (.cells #[.string ⟨#[]⟩, .int .i64 0] 31)) = W at hgw hf ⊢
  have HF := Lib.hid (fun W' (hg : W.grownBy W' none) => And.intro (cells2 hf.1 hg (by simp)) (cells2 hf.2.1 hg (by simp)))
  have Hgw := Lib.hid hgw
  have Hsz := Lib.hid hf.2.2
  obtain ⟨⟨a1, a2, a3, a4, a5⟩, ⟨b1, b2, b3, b4, b5⟩⟩ := HF.out W (grown_self _ _)
  clear hf hgw
  go_wp2_with (first
    | (go_at_call 19; refine (Hchk.out _).mono ?_; rintro e w1 ⟨rfl, hb1⟩; clear a1 a2 a3 a4 a5 b1 b2 b3 b4 b5; have Hg1 := Lib.hid (grown_of_below hb1); clear hb1)
    | (go_at_call 23; (with_reducible refine (HO.out _ (grown_trans Hgw.out Hg1.out)).mono ?_); rintro e w2 ⟨bk, rfl, hbk, hg2⟩; obtain ⟨⟨a1, a2, a3, a4, a5⟩, ⟨b1, b2, b3, b4, b5⟩⟩ := HF.out w2 (grown_trans Hg1.out hg2.out); have q1 : ∀ O, (w2.alloc O).cell? ⟨w.heap.size, 0, none⟩ = some (.string b) := (fun O => (HF.out _ (grown_trans (grown_trans Hg1.out hg2.out) (World.grownBy_alloc w2 O none))).1.2.1); have q2 : ∀ O, (w2.alloc O).cell? ⟨w.heap.size, 1, none⟩ = some (.int .i64 (n : Nat)) := (fun O => (HF.out _ (grown_trans (grown_trans Hg1.out hg2.out) (World.grownBy_alloc w2 O none))).1.2.2.1))
    | fail)
  clear q1 q2 a1 a2 a3 a4 a5 b1 b2 b3 b4 b5
  have hnew := heap_alloc_new w2 (.cells #[.slice none 0 0, .int .u64 0, .int .i64 0] 56)
  have hw2 : IsWriter (w2.alloc (.cells #[.slice none 0 0, .int .u64 0, .int .i64 0] 56)) w2.heap.size w2.heap.size [] :=
    ⟨[], [], _, rfl, Nat.le_refl _, by decide, hnew, Owns.nil _ _ _⟩
  have hg12 := World.grownBy_alloc w2 (.cells #[.slice none 0 0, .int .u64 0, .int .i64 0] 56) none
  generalize (w2.alloc (.cells #[.slice none 0 0, .int .u64 0, .int .i64 0] 56)) = w3 at hw2 hg12 ⊢
  clear hnew
  obtain ⟨B, hB⟩ : ∃ B, B = w2.heap.size := ⟨_, rfl⟩
  rw [← hB] at hw2 ⊢
  have HBe := Lib.hid hB
  have Hcopy := Lib.hid (copy_any B B [] m b w3 hw2 Hm.out (by have := Hn.out; simp; omega) (by rw [hB]; exact hg12.size))
  rw [← Hn.out] at Hcopy
  have Hg12 := Lib.hid hg12
  clear hw2 hg12 hB
  with_reducible refine Hcopy.out.mono ?_
  rintro e w4 ⟨rfl, hc1, hc2, hc3⟩
  have Hw4 : Hid (IsWriter w4 B B (m ++ symBits X (S.take 0))) := by
    show IsWriter _ _ _ _
    simp only [List.take_zero, symBits, List.append_nil]
    exact hc1
  have Hg4 : Hid (w2.grownBy w4 none) := grown_chain HBe.out Hg12.out hc2
  clear hc1 hc2 hc3
  simp only []
  go_wp2_with fail
  go_loopw [36] (fun iv wr => ∃ (i : Nat), iv = .int .i64 (i : Nat) ∧ i ≤ N ∧ Hid (IsWriter wr B B (m ++ symBits X (S.take i))) ∧ Hid (w2.grownBy wr none)) (fun iv _ => N - (intOf iv).toNat)
  case atStart => exact ⟨0, rfl, Nat.zero_le _, Hw4, Hg4⟩
  case round =>
    clear Hw4 Hg4
    obtain ⟨i, rfl, hi, hwr, hg⟩ := hrel
    have Hgwr : Hid (w.grownBy wr none) := grown_trans Hgw.out (grown_trans Hg1.out (grown_trans hg2.out hg.out))
    have HBw : Hid (B ≤ wr.heap.size) := by show _ ≤ _; rw [HBe.out]; exact hg.out.size
    by_cases hlt : i < N
    · obtain ⟨q, g, x, L, rfl, rfl, c1, c2, hxM, hL, hL1, hL15, hsy, hroom⟩ := HV.out wr Hgwr.out i hlt
      have HC1 := Lib.hid (fun W' (hW : wr.grownBy W' none) => HCd.out W' bk x (grown_trans Hgwr.out hW) (hbk.out.grown (grown_trans hg.out hW)) hxM (by rw [← hL]; exact hL1))
      rw [← hL] at HC1
      have hcx := HGc.out x hxM (by rw [← hL]; exact hL1)
      obtain ⟨K, hK⟩ : ∃ K, K = (m ++ symBits X (S.take i)).length := ⟨_, rfl⟩
      have hKe : K = n + (symBits X (S.take i)).length := by rw [hK, List.length_append, ← Hn.out]
      have hKL : K + L ≤ 1048576 := by omega
      have HLen : Hid (∀ W', wr.grownBy W' none → Calls Tryd.prog 24 #[.pointer (some ⟨B, 0, none⟩)] W' fun e w' => e = .returned (.int .i64 (K : Nat)) ∧ ∃ n, w' = W'.drewN n) := fun W' hW => by
        obtain ⟨o, r, v, he, hwa⟩ := hwr.out.grown hW
        have h1 := congrArg List.length he
        rw [← hK, List.length_append, length_unpack] at h1
        have h2 := len_any B B o r v W' hwa (by omega)
        rw [h1]
        exact h2
      generalize codeAt X x = C at HC1 hcx hsy
      have HAdd : Hid (∀ W', wr.grownBy W' none → Calls Tryd.prog 25 #[.pointer (some ⟨B, 0, none⟩), .int .u64 (C : Nat), .int .i64 (L : Nat)] W' fun e w' => e = .returned (.tuple #[]) ∧ Hid (IsWriter w' B B (m ++ symBits X (S.take (i + 1)))) ∧ Hid (w2.grownBy w' none)) := fun W' hW => by
        refine (add_any B B (m ++ symBits X (S.take i)) C L W' (hwr.out.grown hW) (by omega) (by omega) (by omega) (Nat.le_trans HBw.out hW.size)).mono ?_
        rintro e w' ⟨rfl, h1, h2, _⟩
        refine ⟨rfl, ?_, grown_chain HBe.out (grown_trans hg.out hW) h2⟩
        show IsWriter _ _ _ _
        rw [hsy, ← List.append_assoc]
        exact h1
      have hxi : (x : Int) < (M : Int) := by omega
      have hxw : IntKind.i64.wrap (x : Int) = (x : Int) := IntWalk.i64_in _ (by omega)
      have hLi : ((L : Int) == 0) = false := by simp; omega
      have hLw : IntKind.i64.wrap (1048576 - (L : Int)) = 1048576 - (L : Int) := IntWalk.i64_in _ (by omega)
      have hKi : ¬ 1048576 - (L : Int) < (K : Int) := by omega
      have hii : (i : Int) < (N : Int) := by omega
      clear hK hKe hsy hroom hL
      go_wp2_with fail
      go_quiet ((go_at_call 24; exact Calls.quiet_of (HLen.out _ (grown_drewN _ _ _))))
      have hgq := Lib.hid (grown_drewN wr nq none)
      go_wp2_with (first
        | (go_at_call 26; (with_reducible refine (HC1.out _ (grown_drewN _ _ _)).mono ?_); rintro e w5 ⟨rfl, hg5⟩)
        | (go_at_call 25; (with_reducible refine (HAdd.out _ (grown_trans (grown_drewN _ _ _) hg5.out)).mono ?_); rintro e w6 ⟨rfl, hw6, hg6⟩)
        | fail)
      exact ⟨⟨i + 1, by rw [Int.natCast_add]; rfl, by omega, hw6, hg6⟩, by simp [intOf]; omega⟩
    · obtain rfl : i = N := by omega
      have htk : S.take i = S := List.take_of_length_le (by rw [← HN.out]; exact Nat.le_refl _)
      obtain ⟨o, r, vv, he, hwa⟩ := hwr.out
      rw [htk] at he
      have hol : 8 * o.length + r.length = n + T := by
        have h1 := congrArg List.length he
        rw [List.length_append, List.length_append, length_unpack, ← Hn.out, ← HT.out] at h1
        omega
      have HBits := Lib.hid (bits_any B B o r vv wr hwa (by omega))
      have hlen : 8 * o.length + r.length = (m ++ symBits X S).length := by
        rw [List.length_append, ← Hn.out, ← HT.out]
        omega
      rw [hlen] at HBits
      generalize hKK : (m ++ symBits X S).length = KK at HBits ⊢
      have Hhe := Lib.hid he
      have HKK := Lib.hid hKK
      clear hlen hol hKK htk he hwa
      go_wp2_with (first
        | (go_at_call 22; (with_reducible refine HBits.out.mono ?_); rintro e w5 ⟨B', he1, rfl, he2⟩; have He1 := Lib.hid he1; have He2 := Lib.hid (grown_of_below he2); clear he1 he2; obtain ⟨⟨a1, a2, a3, a4, a5⟩, ⟨b1, b2, b3, b4, b5⟩⟩ := HF.out w5 (grown_trans Hg1.out (grown_trans hg2.out (grown_trans hg.out He2.out))))
        | fail)
      have hts := two_cells w5 (w.heap.size + 1) _ _ (.string ⟨B'.toArray⟩) (.int .i64 (KK : Int)) _ b1
      have hbl2 : w.grownBy ((w5.setCell ⟨w.heap.size + 1, 0, none⟩ (.string ⟨B'.toArray⟩)).setCell ⟨w.heap.size + 1, 1, none⟩ (.int .i64 (KK : Int))) none := by
        have h1 := grown_trans Hgwr.out He2.out
        exact grown_bel ((bel_grown h1 (Nat.le_refl _)).trans (below_grown hts.2 (by omega) h1.size)) none
      have hrow := hts.1
      clear hts a1 a2 a3 a4 a5 b1 b2 b3 b4 b5
      generalize ((w5.setCell ⟨w.heap.size + 1, 0, none⟩ (.string ⟨B'.toArray⟩)).setCell ⟨w.heap.size + 1, 1, none⟩ (.int .i64 (KK : Int))) = w6 at hrow hbl2 ⊢
      refine bodyPost_ret (results_row_tmp (fn := Tryd.f7) (p := 6) (q := 7) (ty := 31) rfl _ _ (w.heap.size + 1) 31 _ _ _ rfl hrow Tryd.underlying31 rfl HS2.out) rfl ?_
      refine ⟨B', ?_, by rw [HKK.out]; rfl, hbl2⟩
      have h2 := He1.out
      rw [← Hhe.out] at h2
      exact h2
end Go.Proofs.YtidmmcgnghdfdaaDoor
