/- The reference Move, Back and Front return what the plain law tells, for every input. -/
import Derived.Test.YteopmojpnebjfaaMoveWalk
namespace Go.Proofs.Yteopmojpnebjfaa
open Go.RowKit MtfPlain

theorem elem37 : ElemOf Try.prog 37 5 (.int .u8 0) 1 := ⟨Try.underlying37, by kernel_rfl, rfl⟩

theorem mk_size (l : List UInt8) : (⟨l.toArray⟩ : ByteArray).size = l.length := by simp [ByteArray.size]

theorem mv_take (row s : List UInt8) (k : Nat) (c : UInt8) (hc : s[k]? = some c) : mv row (s.take (k + 1)) = mvStep (mv row (s.take k)) c := by
  rw [List.take_add_one, hc]; exact mv_snoc _ _ _
theorem bk_take (row s : List UInt8) (k : Nat) (c : UInt8) (hc : s[k]? = some c) : bk row (s.take (k + 1)) = bkStep (bk row (s.take k)) c := by
  rw [List.take_add_one, hc]; exact bk_snoc _ _ _

set_option maxRecDepth 100000 in
set_option maxHeartbeats 1000000 in
theorem refMove_ok (row s : ByteArray) (w : World) (hs : s.size ≤ 65536) (hf : full row.data.toList) :
    Calls Try.prog 8 #[.string row, .string s] w fun e w' => e = .returned (T3 (mv row.data.toList s.data.toList, 0)) ∧ Below w.heap.size w w' := by
  have HC := Lib.hid (refCheck_any row w (by rw [← size_data, hf.1]; decide))
  rw [show chk row.data.toList = 0 from by rcases chk_cases row.data.toList with h | h; exact h.1; exact absurd hf h.2] at HC
  have HFull := Lib.hid hf
  clear hf
  have hgt : ¬ ((65536 : Int) < (s.size : Int)) := by omega
  go_enter Try.func8, Try.ntmps8
  go_wp2_with (go_at_call 15; refine HC.out.mono ?_; rintro e w1 ⟨rfl, rfl⟩)
  go_loopw [0, 7, 8, 9] (fun rv v i _ wr => ∃ (k : Nat) (r o : List UInt8), k ≤ s.size ∧ i = .int .i64 k ∧ rv = .string ⟨r.toArray⟩ ∧ Hid (mv row.data.toList (s.data.toList.take k) = (o, r)) ∧ Hid (Owns wr w.heap.size 5 v (bcells o)) ∧ Below w.heap.size w wr) (fun _ _ i _ _ => s.size - (intOf i).toNat)
  case atStart => exact ⟨0, row.data.toList, [], by omega, rfl, by rw [mk_data], rfl, Owns.nil _ _ _, Below.refl _ _⟩
  case round =>
    obtain ⟨k, r, o, hk, rfl, rfl, hm, hv, hb⟩ := hrel
    have hfr : full r := by have := mv_full HFull.out (s.data.toList.take k); rw [hm.out] at this; exact this
    have hol : o.length = k := by
      have := mv_length row.data.toList (s.data.toList.take k); rw [hm.out] at this
      simp only at this; rw [this, List.length_take, size_data]; omega
    by_cases hlt : k < s.size
    · have hn : mv row.data.toList (s.data.toList.take (k + 1)) = (o ++ [UInt8.ofNat (idx r s[k])], front r (idx r s[k])) := by
        rw [mv_take _ _ _ _ (data_at _ _ hlt), hm.out]; rfl
      obtain ⟨h1, h2, h3⟩ := idx_full hfr s[k]
      have hfi := find_any ⟨r.toArray⟩ s[k] wr (by rw [mk_size, hfr.1]; decide)
      rw [show Lib.indexByte ((⟨r.toArray⟩ : ByteArray).data.toList) s[k] = (idx r s[k] : Int) from h1] at hfi
      have hfo : ∀ w, Calls Try.prog 21 #[.string ⟨r.toArray⟩, .int .i64 (idx r s[k] : Int)] w fun e w' => e = .returned (.string ⟨(front r (idx r s[k])).toArray⟩) ∧ ∃ n, w' = w.drewN n :=
        fun w => front_any ⟨r.toArray⟩ (idx r s[k]) w (by rw [mk_size, hfr.1]; decide) (by rw [mk_size, hfr.1]; exact h2)
      have hbyte : ((idx r s[k] : Nat) : Int) = ((UInt8.ofNat (idx r s[k])).toNat : Int) := by rw [toNat_ofNat_lt h2]
      have HBy := Lib.hid hbyte
      have HN := Lib.hid hn
      have HF := Lib.hid hfi
      have HO := Lib.hid hfo
      have HOL := Lib.hid hol
      have h4 : (idx r s[k] : Int) < 256 := by omega
      have hq := s[k].toNat_lt
      clear hn hfi hfo h1 h3 hfr hm hbyte hol
      generalize idx r s[k] = x at *
      have hbl : (bcells o).length = k := by rw [bcells_length]; exact HOL.out
      have HBL := Lib.hid hbl
      clear hbl
      go_wp2_with (first
        | (go_at_call 20; refine HF.out.mono ?_; rintro e w1 ⟨rfl, rfl⟩)
        | (go_at_call 21; refine (HO.out _).mono ?_; rintro e w2 ⟨rfl, n, rfl⟩)
        | (at_builtin; refine wpList_push rfl (.tmp 27) (.tmp 30) 37 rfl w.heap.size 5 (.int .u8 0) 1 elem37 _ (bcells o) rfl hv.out (.int .u8 x) rfl rfl (by rw [HBL.out]; omega) (by rw [HBL.out]; unfold maxLen; omega) hb.size ?_; intro g cap w1 ho1 hb1 _ _; have HO1 := Lib.hid ho1; have HB1 := Lib.hid hb1; clear ho1 hb1))
      go_roundw
      case rel =>
        refine ⟨k + 1, front r x, o ++ [UInt8.ofNat x], by omega, by go_num, rfl, HN.out, ?_, ?_⟩
        · show Owns _ _ _ _ _
          have : bcells (o ++ [UInt8.ofNat x]) = bcells o ++ [Value.int .u8 x] := by
            rw [bcells_append, HBy.out]; rfl
          rw [this]
          exact HO1.out.drewN n
        · exact (hb.trans HB1.out).trans ⟨rfl, rfl, rfl, Nat.le_refl _, fun _ _ => rfl⟩
      case measure => simp [intOf]; omega
    · have hk' : s.data.toList.take k = s.data.toList := List.take_of_length_le (by rw [size_data]; omega)
      rw [hk'] at hm
      clear hol hk'
      go_wp2_with (refine wpList_conv_owned rfl 37 9 5 (.tmp 35) rfl Try.underlying37 Try.underlying5 Try.underlying9 w.heap.size _ o rfl hv.out ?_)
      go_ret3
      rw [hm.out]
      exact ⟨rfl, hb⟩
set_option maxRecDepth 100000 in
set_option maxHeartbeats 1000000 in
theorem refBack_ok (row s : ByteArray) (w : World) (hs : s.size ≤ 65536) (hf : full row.data.toList) :
    Calls Try.prog 10 #[.string row, .string s] w fun e w' => e = .returned (T3 (bk row.data.toList s.data.toList, 0)) ∧ Below w.heap.size w w' := by
  have HC := Lib.hid (refCheck_any row w (by rw [← size_data, hf.1]; decide))
  rw [show chk row.data.toList = 0 from by rcases chk_cases row.data.toList with h | h; exact h.1; exact absurd hf h.2] at HC
  have HFull := Lib.hid hf
  clear hf
  have hgt : ¬ ((65536 : Int) < (s.size : Int)) := by omega
  go_enter Try.func10, Try.ntmps10
  go_wp2_with (go_at_call 15; refine HC.out.mono ?_; rintro e w1 ⟨rfl, rfl⟩)
  go_loopw [0, 7, 8] (fun rv v i wr => ∃ (k : Nat) (r o : List UInt8), k ≤ s.size ∧ i = .int .i64 k ∧ rv = .string ⟨r.toArray⟩ ∧ Hid (bk row.data.toList (s.data.toList.take k) = (o, r)) ∧ Hid (Owns wr w.heap.size 5 v (bcells o)) ∧ Below w.heap.size w wr) (fun _ _ i _ => s.size - (intOf i).toNat)
  case atStart => exact ⟨0, row.data.toList, [], by omega, rfl, by rw [mk_data], rfl, Owns.nil _ _ _, Below.refl _ _⟩
  case round =>
    obtain ⟨k, r, o, hk, rfl, rfl, hm, hv, hb⟩ := hrel
    have hfr : full r := by have := bk_full HFull.out (s.data.toList.take k); rw [hm.out] at this; exact this
    have hol : o.length = k := by
      have := bk_length row.data.toList (s.data.toList.take k); rw [hm.out] at this
      simp only at this; rw [this, List.length_take, size_data]; omega
    by_cases hlt : k < s.size
    · have hn : bk row.data.toList (s.data.toList.take (k + 1)) = (o ++ [r.getD s[k].toNat 0], front r s[k].toNat) := by
        rw [bk_take _ _ _ _ (data_at _ _ hlt), hm.out]; rfl
      have hq := s[k].toNat_lt
      have hfo : ∀ w, Calls Try.prog 21 #[.string ⟨r.toArray⟩, .int .i64 (s[k].toNat : Int)] w fun e w' => e = .returned (.string ⟨(front r s[k].toNat).toArray⟩) ∧ ∃ n, w' = w.drewN n :=
        fun w => front_any ⟨r.toArray⟩ s[k].toNat w (by rw [mk_size, hfr.1]; decide) (by rw [mk_size, hfr.1]; exact hq)
      have hrl : s[k].toNat < (⟨r.toArray⟩ : ByteArray).size := by rw [mk_size, hfr.1]; exact hq
      obtain ⟨rb, hrb⟩ : ∃ rb : ByteArray, rb = ⟨r.toArray⟩ := ⟨_, rfl⟩
      rw [← hrb] at hrl hfo ⊢
      have hget : r.getD s[k].toNat 0 = rb[s[k].toNat] := by
        have := data_at rb _ hrl
        have hr2 : r = rb.data.toList := by rw [hrb]
        rw [hr2, List.getD_eq_getElem?_getD, this]
        rfl
      rw [hget] at hn
      have HRB := Lib.hid hrb
      have HN := Lib.hid hn
      have HO := Lib.hid hfo
      have HOL := Lib.hid hol
      have hy := rb[s[k].toNat].toNat_lt
      clear hn hfo hfr hm hol hget hrb
      have hbl : (bcells o).length = k := by rw [bcells_length]; exact HOL.out
      have HBL := Lib.hid hbl
      clear hbl
      go_wp2_with (first
        | (go_at_call 21; refine (HO.out _).mono ?_; rintro e w2 ⟨rfl, n, rfl⟩)
        | (at_builtin; refine wpList_push rfl (.tmp 21) (.tmp 27) 37 rfl w.heap.size 5 (.int .u8 0) 1 elem37 _ (bcells o) rfl hv.out (.int .u8 rb[s[k].toNat].toNat) rfl rfl (by rw [HBL.out]; omega) (by rw [HBL.out]; unfold maxLen; omega) hb.size ?_; intro g cap w1 ho1 hb1 _ _; have HO1 := Lib.hid ho1; have HB1 := Lib.hid hb1; clear ho1 hb1))
      go_roundw
      case rel =>
        refine ⟨k + 1, front r s[k].toNat, o ++ [rb[s[k].toNat]], by omega, by go_num, rfl, HN.out, ?_, ?_⟩
        · show Owns _ _ _ _ _
          have : bcells (o ++ [rb[s[k].toNat]]) = bcells o ++ [Value.int .u8 rb[s[k].toNat].toNat] := by
            rw [bcells_append]; rfl
          rw [this]
          exact HO1.out.drewN n
        · exact (hb.trans HB1.out).trans ⟨rfl, rfl, rfl, Nat.le_refl _, fun _ _ => rfl⟩
      case measure => simp [intOf]; omega
    · have hk' : s.data.toList.take k = s.data.toList := List.take_of_length_le (by rw [size_data]; omega)
      rw [hk'] at hm
      clear hol hk'
      go_wp2_with (refine wpList_conv_owned rfl 37 9 5 (.tmp 35) rfl Try.underlying37 Try.underlying5 Try.underlying9 w.heap.size _ o rfl hv.out ?_)
      go_ret3
      rw [hm.out]
      exact ⟨rfl, hb⟩


set_option maxRecDepth 100000 in
set_option maxHeartbeats 1000000 in
theorem refMove_any (row s : ByteArray) (w : World) (hr : row.size ≤ maxLen) :
    Calls Try.prog 8 #[.string row, .string s] w fun e w' => e = .returned (T3 (told mv row.data.toList s.data.toList)) ∧ Below w.heap.size w w' := by
  have HC := Lib.hid (refCheck_any row w hr)
  rcases chk_cases row.data.toList with ⟨hc, hf⟩ | ⟨hc, hf⟩
  · by_cases hs : s.size ≤ 65536
    · rw [told_ok _ hc (by rw [size_data]; exact hs)]
      exact refMove_ok row s w hs hf
    · rw [told_long _ hc (by rw [size_data]; omega)]
      rw [hc] at HC
      have hgt : (65536 : Int) < (s.size : Int) := by omega
      clear hc hf
      go_enter Try.func8, Try.ntmps8
      go_wp2_with (go_at_call 15; refine HC.out.mono ?_; rintro e w1 ⟨rfl, rfl⟩)
      go_ret3
      exact ⟨rfl, Below.refl _ _⟩
  · rw [told_bad _ hc]
    rw [hc] at HC
    clear hc hf
    go_enter Try.func8, Try.ntmps8
    go_wp2_with (go_at_call 15; refine HC.out.mono ?_; rintro e w1 ⟨rfl, rfl⟩)
    go_ret3
    exact ⟨rfl, Below.refl _ _⟩

set_option maxRecDepth 100000 in
set_option maxHeartbeats 1000000 in
theorem refBack_any (row s : ByteArray) (w : World) (hr : row.size ≤ maxLen) :
    Calls Try.prog 10 #[.string row, .string s] w fun e w' => e = .returned (T3 (told bk row.data.toList s.data.toList)) ∧ Below w.heap.size w w' := by
  have HC := Lib.hid (refCheck_any row w hr)
  rcases chk_cases row.data.toList with ⟨hc, hf⟩ | ⟨hc, hf⟩
  · by_cases hs : s.size ≤ 65536
    · rw [told_ok _ hc (by rw [size_data]; exact hs)]
      exact refBack_ok row s w hs hf
    · rw [told_long _ hc (by rw [size_data]; omega)]
      rw [hc] at HC
      have hgt : (65536 : Int) < (s.size : Int) := by omega
      clear hc hf
      go_enter Try.func10, Try.ntmps10
      go_wp2_with (go_at_call 15; refine HC.out.mono ?_; rintro e w1 ⟨rfl, rfl⟩)
      go_ret3
      exact ⟨rfl, Below.refl _ _⟩
  · rw [told_bad _ hc]
    rw [hc] at HC
    clear hc hf
    go_enter Try.func10, Try.ntmps10
    go_wp2_with (go_at_call 15; refine HC.out.mono ?_; rintro e w1 ⟨rfl, rfl⟩)
    go_ret3
    exact ⟨rfl, Below.refl _ _⟩

/-- what Front tells -/
def toldF (row : List UInt8) (c : UInt8) : List UInt8 × Int × Int := if chk row ≠ 0 then ([], 0, 2) else (front row (idx row c), (idx row c : Int), 0)
def F3 (x : List UInt8 × Int × Int) : Value := .tuple #[.string ⟨x.1.toArray⟩, .int .i64 x.2.1, .int .i64 x.2.2]

set_option maxRecDepth 100000 in
set_option maxHeartbeats 1000000 in
theorem refFront_any (row : ByteArray) (c : UInt8) (w : World) (hr : row.size ≤ maxLen) :
    Calls Try.prog 12 #[.string row, .int .u8 c.toNat] w fun e w' => e = .returned (F3 (toldF row.data.toList c)) ∧ Below w.heap.size w w' := by
  have HC := Lib.hid (refCheck_any row w hr)
  rcases chk_cases row.data.toList with ⟨hc, hf⟩ | ⟨hc, hf⟩
  · have hfi := find_any row c w hr
    obtain ⟨h1, h2, h3⟩ := idx_full hf c
    rw [h1] at hfi
    have hfo : ∀ w, Calls Try.prog 21 #[.string row, .int .i64 (idx row.data.toList c : Int)] w fun e w' => e = .returned (.string ⟨(front row.data.toList (idx row.data.toList c)).toArray⟩) ∧ ∃ n, w' = w.drewN n :=
      fun w => front_any row _ w hr (by rw [← size_data, hf.1]; exact h2)
    unfold toldF
    rw [hc] at HC ⊢
    have HF := Lib.hid hfi
    have HO := Lib.hid hfo
    clear hfi hfo h1 h3 hc hf
    generalize idx row.data.toList c = x at *
    go_enter Try.func12, Try.ntmps12
    go_wp2_with (first | (go_at_call 15; refine HC.out.mono ?_; rintro e w1 ⟨rfl, rfl⟩) | (go_at_call 20; refine HF.out.mono ?_; rintro e w1 ⟨rfl, rfl⟩) | (go_at_call 21; refine (HO.out _).mono ?_; rintro e w2 ⟨rfl, n, rfl⟩))
    go_ret3
    exact ⟨rfl, ⟨rfl, rfl, rfl, Nat.le_refl _, fun _ _ => rfl⟩⟩
  · unfold toldF
    rw [hc] at HC ⊢
    clear hc hf
    go_enter Try.func12, Try.ntmps12
    go_wp2_with (go_at_call 15; refine HC.out.mono ?_; rintro e w1 ⟨rfl, rfl⟩)
    go_ret3
    exact ⟨rfl, Below.refl _ _⟩
end Go.Proofs.Yteopmojpnebjfaa
