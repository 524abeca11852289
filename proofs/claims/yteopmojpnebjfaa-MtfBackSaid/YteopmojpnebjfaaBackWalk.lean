/- The walks of MtfBack, MtfParts and MtfAgain: for every input each returns true and writes nothing that was there; no condition. -/
import Derived.Test.YteopmojpnebjfaaDoesWalk
namespace Go.Proofs.Yteopmojpnebjfaa
open Go.RowKit MtfPlain

theorem full_of_chk {r : List UInt8} (h : chk r = 0) : full r := by
  rcases chk_cases r with h' | h'
  · exact h'.2
  · omega
theorem chk_of_full {r : List UInt8} (h : full r) : chk r = 0 := by
  rcases chk_cases r with h' | h'
  · exact h'.1
  · exact absurd h h'.2
theorem mk_list (l : List UInt8) : (⟨l.toArray⟩ : ByteArray).data.toList = l := rfl

theorem told_cases (f : List UInt8 → List UInt8 → List UInt8 × List UInt8) (row s : List UInt8) :
    (∃ c : Int, (c = 1 ∨ c = 2) ∧ told f row s = (([], []), c) ∧ ¬ (chk row = 0 ∧ s.length ≤ 65536)) ∨ (chk row = 0 ∧ s.length ≤ 65536 ∧ told f row s = (f row s, 0)) := by
  rcases chk_cases row with ⟨hc, _⟩ | ⟨hc, _⟩
  · by_cases hs : s.length ≤ 65536
    · exact .inr ⟨hc, hs, told_ok f hc hs⟩
    · exact .inl ⟨1, .inl rfl, told_long f hc (by omega), by omega⟩
  · exact .inl ⟨2, .inr rfl, told_bad f hc, by omega⟩

set_option maxRecDepth 100000 in
set_option maxHeartbeats 2000000 in
theorem mtfBack_walk (row s : ByteArray) (_w0 : row.size ≤ maxLen) (_w1 : s.size ≤ maxLen) (w : World) :
    Calls Try.prog 4 #[.string row, .string s] w fun e w' => e = .returned (.bool true) ∧ Below w.heap.size w w' := by
  have M1 := thread (move_any row s) w
  have L := Lib.hid (thread lives_any w)
  have hb := Below.refl w.heap.size w
  rcases told_cases mv row.data.toList s.data.toList with ⟨c, hc, ht, _⟩ | ⟨hc, hs, ht⟩
  · rw [ht] at M1
    have hne : (c != 0) = true := by rw [bne_iff_ne]; omega
    have H1 := Lib.hid M1
    unfold T3 at H1
    simp only at H1
    clear M1 ht
    go_enter Try.func4, Try.ntmps4
    go_wp2_with (first
      | (go_at_call 7; refine (H1.out _ (by assumption)).mono ?_; rintro e w1 ⟨rfl, hb1⟩)
      | (go_at_call 13; refine (L.out _ (by assumption)).mono ?_; rintro e w7 ⟨rfl, hb7⟩))
    go_ret
    exact ⟨rfl, by assumption⟩
  · have hf := full_of_chk hc
    rw [ht] at M1
    obtain ⟨a, r, har⟩ : ∃ a r, mv row.data.toList s.data.toList = (a, r) := ⟨_, _, rfl⟩
    have hfr : full r := by have := mv_full hf s.data.toList; rwa [har] at this
    have hal : a.length = s.data.toList.length := by have := mv_length row.data.toList s.data.toList; rwa [har] at this
    have B1 := thread (back_any row ⟨a.toArray⟩) w
    rw [mk_list a, told_ok bk hc (by omega)] at B1
    have hbm := bk_mv hf s.data.toList
    rw [har] at hbm
    simp only at hbm
    rw [hbm] at B1
    have B2 := thread (back_any row s) w
    rw [told_ok bk hc hs] at B2
    obtain ⟨b, p, hbp⟩ : ∃ b p, bk row.data.toList s.data.toList = (b, p) := ⟨_, _, rfl⟩
    have hfp : full p := by have := bk_full hf s.data.toList; rwa [hbp] at this
    have hbl : b.length = s.data.toList.length := by have := bk_length row.data.toList s.data.toList; rwa [hbp] at this
    have M2 := thread (move_any row ⟨b.toArray⟩) w
    rw [mk_list b, told_ok mv hc (by omega)] at M2
    have hmb := mv_bk hf s.data.toList
    rw [hbp] at hmb
    simp only at hmb
    rw [hmb] at M2
    rw [hbp] at B2
    rw [har] at M1
    have C1 := thread (check_any ⟨r.toArray⟩) w
    have C2 := thread (check_any ⟨p.toArray⟩) w
    rw [mk_list r, chk_of_full hfr] at C1
    rw [mk_list p, chk_of_full hfp] at C2
    unfold T3 at M1 B1 B2 M2
    simp only [mk_data] at M1 B1 B2 M2
    obtain ⟨ab, hab, hal2⟩ : ∃ ab : ByteArray, ab = ⟨a.toArray⟩ ∧ (ab.size : Int) = (s.size : Int) := ⟨_, rfl, by rw [mk_size, hal, size_data]⟩
    rw [← hab] at M1 B1
    have he : ((ab.size : Int) == (s.size : Int)) = true := by rw [hal2]; exact beq_self_eq_true _
    have M1 := Lib.hid M1
    have M2 := Lib.hid M2
    have B1 := Lib.hid B1
    have B2 := Lib.hid B2
    have C1 := Lib.hid C1
    have C2 := Lib.hid C2
    clear hab har hbp hbm hmb ht hf hc hs hal hbl hal2 hfr hfp
    generalize (⟨r.toArray⟩ : ByteArray) = r at *
    generalize (⟨p.toArray⟩ : ByteArray) = p at *
    generalize (⟨b.toArray⟩ : ByteArray) = b at *
    go_enter Try.func4, Try.ntmps4
    go_wp2_with (first | (go_at_call 13; refine (L.out _ (by assumption)).mono ?_; rintro e w7 ⟨rfl, hb7⟩) | fail)
    refine (M1.out _ (by assumption)).mono ?_
    rintro e w1 ⟨rfl, hb1⟩
    go_wp2_with fail
    refine (B1.out _ (by assumption)).mono ?_
    rintro e w2 ⟨rfl, hb2⟩
    go_wp2_with fail
    refine (B2.out _ (by assumption)).mono ?_
    rintro e w3 ⟨rfl, hb3⟩
    go_wp2_with fail
    refine (M2.out _ (by assumption)).mono ?_
    rintro e w4 ⟨rfl, hb4⟩
    go_wp2_with fail
    refine (C1.out _ (by assumption)).mono ?_
    rintro e w5 ⟨rfl, hb5⟩
    go_wp2_with fail
    refine (C2.out _ (by assumption)).mono ?_
    rintro e w6 ⟨rfl, hb6⟩
    go_wp2_with fail
    go_ret
    exact ⟨rfl, by assumption⟩

theorem extract_toList (s : ByteArray) (a b : Nat) : (s.extract a b).data.toList = (s.data.toList.drop a).take (b - a) := Lib.extract_data s a b

set_option maxRecDepth 100000 in
set_option maxHeartbeats 2000000 in
theorem mtfParts_walk (row s : ByteArray) (at_ : Int) (_w0 : row.size ≤ maxLen) (w1 : s.size ≤ maxLen) (_w2 : (Lit.int .i64 at_).wf = true) (w : World) :
    Calls Try.prog 5 #[.string row, .string s, .int .i64 at_] w fun e w' => e = .returned (.bool true) ∧ Below w.heap.size w w' := by
  unfold maxLen at w1
  have L := Lib.hid (thread lives_any w)
  have hb := Below.refl w.heap.size w
  by_cases h0 : at_ < 0
  · go_enter Try.func5, Try.ntmps5
    go_wp2_with (go_at_call 13; refine (L.out _ (by assumption)).mono ?_; rintro e w7 ⟨rfl, hb7⟩)
    go_ret
    exact ⟨rfl, by assumption⟩
  by_cases h1 : (s.size : Int) < at_
  · go_enter Try.func5, Try.ntmps5
    go_wp2_with (go_at_call 13; refine (L.out _ (by assumption)).mono ?_; rintro e w7 ⟨rfl, hb7⟩)
    go_ret
    exact ⟨rfl, by assumption⟩
  obtain ⟨k, rfl⟩ : ∃ k : Nat, at_ = k := ⟨at_.toNat, by omega⟩
  have hk : k ≤ s.size := by omega
  have hk1 : (k : Int) ≤ (s.size : Int) := by omega
  have hk0 : (0 : Int) ≤ (k : Int) := by omega
  have M1 := thread (move_any row s) w
  have M2 := thread (move_any row (s.extract 0 k)) w
  have hs0 : (s.extract 0 k).data.toList = s.data.toList.take k := by rw [extract_toList]; simp
  have hs1 : (s.extract k s.size).data.toList = s.data.toList.drop k := by rw [extract_toList, List.take_of_length_le (by rw [List.length_drop, size_data]; omega)]
  rw [hs0] at M2
  rcases told_cases mv row.data.toList s.data.toList with ⟨c, hc, ht, hno⟩ | ⟨hc, hs, ht⟩
  · rw [ht] at M1
    have hne : (c != 0) = true := by rw [bne_iff_ne]; omega
    have H1 := Lib.hid M1
    unfold T3 at H1
    simp only at H1
    generalize told mv row.data.toList (s.data.toList.take k) = x at *
    obtain ⟨⟨a, b⟩, c2⟩ := x
    have H2 := Lib.hid M2
    unfold T3 at H2
    simp only at H2
    clear M1 ht M2 hs0 hs1 hno h0 h1 _w2
    go_enter Try.func5, Try.ntmps5
    go_wp2_with (go_at_call 13; refine (L.out _ (by assumption)).mono ?_; rintro e w7 ⟨rfl, hb7⟩)
    refine (H1.out _ (by assumption)).mono ?_
    rintro e w1 ⟨rfl, hb1⟩
    go_wp2_with fail
    refine (H2.out _ (by assumption)).mono ?_
    rintro e w2 ⟨rfl, hb2⟩
    go_wp2_with fail
    go_ret
    exact ⟨rfl, by assumption⟩
  · have hf := full_of_chk hc
    rw [ht] at M1
    have hsk : (s.data.toList.take k).length ≤ 65536 := by rw [List.length_take]; omega
    have hsd : (s.data.toList.drop k).length ≤ 65536 := by rw [List.length_drop]; omega
    rw [told_ok mv hc hsk] at M2
    have hap := mv_append row.data.toList (s.data.toList.take k) (s.data.toList.drop k)
    rw [List.take_append_drop] at hap
    have hfq := mv_full hf (s.data.toList.take k)
    obtain ⟨b, q, hbq⟩ : ∃ b q, mv row.data.toList (s.data.toList.take k) = (b, q) := ⟨_, _, rfl⟩
    rw [hbq] at hap M2 hfq
    simp only at hap hfq
    have M3 := thread (move_any ⟨q.toArray⟩ (s.extract k s.size)) w
    rw [hs1, mk_list q, told_ok mv (chk_of_full hfq) hsd] at M3
    obtain ⟨c, p, hcp⟩ : ∃ c p, mv q (s.data.toList.drop k) = (c, p) := ⟨_, _, rfl⟩
    rw [hcp] at hap M3
    simp only at hap
    rw [hap] at M1
    unfold T3 at M1 M2 M3
    simp only at M1 M2 M3
    have hjoin : (⟨(b ++ c).toArray⟩ : ByteArray) = (⟨b.toArray⟩ : ByteArray) ++ (⟨c.toArray⟩ : ByteArray) := ba_ext (by simp [ByteArray.data_append])
    rw [hjoin] at M1
    have M1 := Lib.hid M1
    have M2 := Lib.hid M2
    have M3 := Lib.hid M3
    have hbl : (⟨b.toArray⟩ : ByteArray).size ≤ 65536 := by
      rw [mk_size]; have := mv_length row.data.toList (s.data.toList.take k); rw [hbq] at this; simp only at this; omega
    have hcl : (⟨c.toArray⟩ : ByteArray).size ≤ 65536 := by
      rw [mk_size]; have := mv_length q (s.data.toList.drop k); rw [hcp] at this; simp only at this; omega
    have hbcl : (⟨b.toArray⟩ : ByteArray).size + (⟨c.toArray⟩ : ByteArray).size ≤ maxLen := by unfold maxLen; omega
    clear hjoin hap hcp hbq hfq hsk hsd ht hf hc hs hs0 hs1 h0 h1 _w2
    generalize (⟨q.toArray⟩ : ByteArray) = q at *
    generalize (⟨p.toArray⟩ : ByteArray) = p at *
    generalize (⟨b.toArray⟩ : ByteArray) = b at *
    generalize (⟨c.toArray⟩ : ByteArray) = c at *
    go_enter Try.func5, Try.ntmps5
    go_wp2_with (go_at_call 13; refine (L.out _ (by assumption)).mono ?_; rintro e w7 ⟨rfl, hb7⟩)
    refine (M1.out _ (by assumption)).mono ?_
    rintro e w1 ⟨rfl, hb1⟩
    go_wp2_with fail
    refine (M2.out _ (by assumption)).mono ?_
    rintro e w2 ⟨rfl, hb2⟩
    go_wp2_with fail
    refine (M3.out _ (by assumption)).mono ?_
    rintro e w3 ⟨rfl, hb3⟩
    go_wp2_with fail
    go_ret
    exact ⟨rfl, by assumption⟩

set_option maxRecDepth 100000 in
set_option maxHeartbeats 2000000 in
theorem mtfAgain_walk (row s : ByteArray) (_w0 : row.size ≤ maxLen) (w1 : s.size ≤ maxLen) (w : World) :
    Calls Try.prog 6 #[.string row, .string s] w fun e w' => e = .returned (.bool true) ∧ Below w.heap.size w w' := by
  unfold maxLen at w1
  have L := Lib.hid (thread lives_any w)
  have hb := Below.refl w.heap.size w
  have M1 := thread (move_any row s) w
  rcases told_cases mv row.data.toList s.data.toList with ⟨c, hc, ht, hno⟩ | ⟨hc, hs, ht⟩
  · rw [ht] at M1
    have hne : (c != 0) = true := by rw [bne_iff_ne]; omega
    have H1 := Lib.hid M1
    unfold T3 at H1
    simp only at H1
    clear M1 ht hno
    go_enter Try.func6, Try.ntmps6
    go_wp2_with (go_at_call 13; refine (L.out _ (by assumption)).mono ?_; rintro e w7 ⟨rfl, hb7⟩)
    refine (H1.out _ (by assumption)).mono ?_
    rintro e w1 ⟨rfl, hb1⟩
    go_wp2_with fail
    go_ret
    exact ⟨rfl, by assumption⟩
  · have hf := full_of_chk hc
    rw [ht] at M1
    unfold T3 at M1
    simp only at M1
    obtain ⟨ab, hab, hal⟩ : ∃ ab : ByteArray, ab = ⟨(mv row.data.toList s.data.toList).1.toArray⟩ ∧ ab.size = s.size := ⟨_, rfl, by rw [mk_size, mv_length, size_data]⟩
    obtain ⟨rb, hrb, hrl⟩ : ∃ rb : ByteArray, rb = ⟨(mv row.data.toList s.data.toList).2.toArray⟩ ∧ rb.size = 256 := ⟨_, rfl, by rw [mk_size, (mv_full hf _).1]⟩
    rw [← hab, ← hrb] at M1
    have hne : ((ab.size : Int) != (s.size : Int)) = false := by rw [hal]; exact bne_self_eq_false _
    have H1 := Lib.hid M1
    have hkey : ∀ i (h1 : 1 ≤ i) (h2 : i < s.size) (h9 : i < ab.size) (h10 : i - 1 < s.size), (ab[i]'h9 = 0) ↔ s[i]'h2 = s[i - 1]'h10 := by
      intro i h1 h2 h9 h10
      have := mv_again hf s.data.toList i h1 (by rw [size_data]; exact h2)
      have e0 : (mv row.data.toList s.data.toList).1.getD i 0 = ab[i] := by
        have h3 := data_at ab i (by omega)
        have h4 : (mv row.data.toList s.data.toList).1 = ab.data.toList := by rw [hab]
        rw [h4, List.getD_eq_getElem?_getD, h3]; rfl
      have e1 : s.data.toList.getD i 0 = s[i] := by rw [List.getD_eq_getElem?_getD, data_at s i h2]; rfl
      have e2 : s.data.toList.getD (i - 1) 0 = s[i - 1] := by rw [List.getD_eq_getElem?_getD, data_at s (i - 1) (by omega)]; rfl
      rw [e0, e1, e2] at this
      exact this
    have Hkey := Lib.hid hkey
    have Hal := Lib.hid hal
    have hal2 : s.size ≤ ab.size := by omega
    have hlast : ∀ (h : 0 < s.size) (h9 : 0 < rb.size) (h10 : s.size - 1 < s.size), rb[0]'h9 = s[s.size - 1]'h10 := by
      intro h h9 h10
      have h5 := mv_head hf (s.data.toList.take (s.size - 1)) s[s.size - 1]
      have h6 : s.data.toList.take (s.size - 1) ++ [s[s.size - 1]] = s.data.toList := by
        have := List.take_add_one (l := s.data.toList) (i := s.size - 1)
        rw [data_at s (s.size - 1) (by omega), show s.size - 1 + 1 = s.size by omega, List.take_of_length_le (by rw [size_data]; omega)] at this
        exact this.symm
      rw [h6] at h5
      have h7 := data_at rb 0 (by omega)
      have h8 : (mv row.data.toList s.data.toList).2 = rb.data.toList := by rw [hrb]
      rw [h8, h7] at h5
      exact Option.some.inj h5
    have Hlast := Lib.hid hlast
    have hnil : s.size = 0 → rb = row := by
      intro h
      have : s.data.toList = [] := List.eq_nil_of_length_eq_zero (by rw [size_data]; exact h)
      rw [hrb, this]; exact mk_data row
    have Hnil := Lib.hid hnil
    have Hrl := Lib.hid hrl
    clear hlast hnil hkey M1 hab hrb ht hf hc hs hal hrl
    go_enter Try.func6, Try.ntmps6
    go_wp2_with (go_at_call 13; refine (L.out _ (by assumption)).mono ?_; rintro e w7 ⟨rfl, hb7⟩)
    refine (H1.out _ (by assumption)).mono ?_
    rintro e w1 ⟨rfl, hb1⟩
    go_wp2_with fail
    go_loopw [8] (fun i wr => ∃ k : Nat, i = .int .i64 ((k : Int) + 1) ∧ (k : Int) ≤ s.size ∧ Below w.heap.size w wr) (fun i _ => s.size + 1 - (intOf i).toNat)
    case atStart => exact ⟨0, rfl, by omega, by assumption⟩
    case round =>
      obtain ⟨k, rfl, hks, hbk⟩ := hrel
      by_cases hlt : k + 1 < s.size
      · have hi6 : k + 1 < ab.size := by omega
        have hi7 : k < s.size := by omega
        have hkk : (ab[k + 1]'hi6 = 0) ↔ s[k + 1]'hlt = s[k]'hi7 := Hkey.out (k + 1) (by omega) hlt hi6 hi7
        have hi1 : (k : Int) + 1 < (s.size : Int) := by omega
        have hi2 : (0 : Int) ≤ (k : Int) + 1 := by omega
        have hi3 : (k : Int) + 1 < (ab.size : Int) := by omega
        have hi4 : (0 : Int) ≤ (k : Int) := by omega
        have hi5 : (k : Int) < (s.size : Int) := by omega
        have hpair : ∃ t : Bool, ((ab[k + 1].toNat : Int) == 0) = t ∧ ((s[k + 1].toNat : Int) == (s[k].toNat : Int)) = t := by
          by_cases hz : s[k + 1] = s[k]
          · refine ⟨true, ?_, by rw [hz]; exact beq_self_eq_true _⟩
            rw [hkk.2 hz]; rfl
          · refine ⟨false, ?_, ?_⟩
            · rw [beq_eq_false_iff_ne]
              intro e
              exact hz (hkk.1 (UInt8.toNat_inj.1 (by simpa using e)))
            · rw [beq_eq_false_iff_ne]
              intro e
              exact hz (UInt8.toNat_inj.1 (by omega))
        obtain ⟨tt, ht1, ht2⟩ := hpair
        have hw : IntKind.i64.wrap (k : Int) = (k : Int) := IntWalk.i64_in _ (by omega)
        have hw2 : IntKind.i64.wrap ((k : Int) + 1 - 1) = (k : Int) := by rw [show (k : Int) + 1 - 1 = k by omega]; exact hw
        have hn : ((k : Int) + 1).toNat = k + 1 := by omega
        clear hkk
        go_wp2_with fail
        cases tt
        all_goals
          go_quiet (fail)
          clear hw hw2
          go_wp2
          go_roundw
          case rel => exact ⟨k + 1, by go_num, by omega, below_drewN hbk _⟩
          case measure => simp [intOf]; omega
      · by_cases h0 : s.size = 0
        · have e1 : s.toList.isEmpty = true := by rw [Lib.toList_data, List.isEmpty_iff]; exact List.eq_nil_of_length_eq_zero (by rw [size_data]; exact h0)
          have e2 : rb = row := Hnil.out h0
          subst e2
          clear h0
          go_wp2_with fail
          go_quiet (fail)
          go_wp2
          go_ret
          exact ⟨rfl, below_drewN hbk _⟩
        · have hls := Hlast.out (by omega) (by have := Hrl.out; omega) (by omega)
          have e1 : s.toList.isEmpty = false := by
            rw [Lib.toList_data, Bool.eq_false_iff]; intro e
            rw [List.isEmpty_iff] at e
            have := size_data s; rw [e] at this; simp at this; omega
          have e3 : ((rb.size : Int) == 256) = true := by rw [Hrl.out]; rfl
          have hr0 : 0 < rb.size := by have := Hrl.out; omega
          have hr1 : (0 : Int) < (rb.size : Int) := by omega
          obtain ⟨n, hn⟩ : ∃ n, s.size = n + 1 := ⟨s.size - 1, by omega⟩
          have hlt2 : s.size - 1 < s.size := by omega
          have hi1 : (0 : Int) ≤ (s.size : Int) - 1 := by omega
          have hi2 : (s.size : Int) - 1 < (s.size : Int) := by omega
          have hi3 : (1 : Int) ≤ (s.size : Int) := by omega
          have hi4 : 1 ≤ s.size := by omega
          have e4 : ((rb[0].toNat : Int) == (s[s.size - 1].toNat : Int)) = true := by rw [hls]; exact beq_self_eq_true _
          have hw : IntKind.i64.wrap ((s.size : Int) - 1) = (s.size : Int) - 1 := IntWalk.i64_in _ (by omega)
          have hnn : ((s.size : Int) - 1).toNat = s.size - 1 := by omega
          clear hls hn h0
          go_wp2_with fail
          go_quiet (fail)
          go_wp2
          go_ret
          exact ⟨rfl, below_drewN hbk _⟩
end Go.Proofs.Yteopmojpnebjfaa