/- What lives asks: true. -/
import Derived.Test.YteeieeoieagclaaZeros11
namespace Go.Proofs.Yteeieeoieagclaa
open Go.RowKit ZerosPlain
set_option linter.unusedVariables false

theorem NumsAt.grown {w w' : World} {v : Value} {xs : List Nat} (h : NumsAt w v xs) (hg : w.grownBy w' none) : NumsAt w' v xs := h.below (bel_grown hg (Nat.le_refl _))
theorem NumsAt.new (w : World) (xs : List Nat) (e : TypeId) (hm : xs.length ≤ maxLen) (c : Nat) : NumsAt (w.alloc (.cells (ncells xs).toArray e)) (.slice (some ⟨w.heap.size, 0, none⟩) xs.length c) xs := by
  refine ⟨_, c, rfl, hm, fun i hi => ⟨_, rfl, ?_⟩⟩
  rw [add_plain, Nat.zero_add, cell_of_row _ _ _ _ _ _ (heap_alloc_new w _)]
  simp [ncells, hi]
theorem NumsAt.src {w : World} {v : Value} {xs : List Nat} (h : NumsAt w v xs) (hne : 0 < xs.length) : Src w v (ncells xs) := by
  obtain ⟨a, cp, rfl, _, hc⟩ := h
  obtain ⟨x, rfl, _⟩ := hc 0 hne
  refine .inr ⟨x, cp, by rw [ncells_length], fun j y hj => ?_⟩
  obtain ⟨hlt, rfl⟩ := List.getElem?_eq_some_iff.1 hj
  rw [ncells_length] at hlt
  obtain ⟨x', h1, h2⟩ := hc j hlt
  injection h1 with h1
  subst h1
  rw [h2]
  simp [ncells]
theorem Owns.none_made (w : World) (e : TypeId) : Owns (w.alloc (.cells #[] e)) w.heap.size e (.slice (some ⟨w.heap.size, 0, none⟩) 0 0) [] := by
  unfold Owns
  exact ⟨rfl, .inr ⟨_, _, _, rfl, Nat.le_refl _, heap_alloc_new w _, Nat.le_refl _, Nat.zero_le _, rfl, rfl⟩⟩

theorem dg3 : dg 3 = [0, 0] := by rw [dg_pos (by omega), show (3 - 1) / 2 = 1 by omega, dg_pos (by omega), show (1 - 1) / 2 = 0 by omega, dg_zero]
theorem dg4 : dg 4 = [1, 0] := by rw [dg_pos (by omega), show (4 - 1) / 2 = 1 by omega, dg_pos (by omega), show (1 - 1) / 2 = 0 by omega, dg_zero]
theorem enc_lives : encR [0, 0, 0, 7] = ([0, 0, 8, 257], 0) := by
  have h : encG [0, 0, 0, 7] 0 = [0, 0, 8, 257] := by simp [encG, dg3, dg_zero]
  unfold encR
  rw [if_neg (by decide), h]
theorem dec_lives : decR [0, 0, 8, 257, 9] = ([0, 0, 0, 7], 4, 0) := by decide
theorem dig_lives : digR 4 = ([1, 0], 0) := by unfold digR; rw [if_neg (by omega), dg4]
theorem num_lives : numR [1, 0] = (4, 0) := by decide
theorem dec_lives0 : decR [0] = ([], 0, 5) := by decide
theorem dec_lives300 : decR [300] = ([], 0, 7) := by decide

/-- the contracts, each at whatever world, what was there being kept -/
theorem encode_k (s : ByteArray) (hs : s.size ≤ maxLen) (r : List Nat × Int) (hr : encR s.data.toList = r) (W : World) :
    Calls Try.prog 7 #[.string s] W fun e w' => ∃ v, e = .returned (.tuple #[v, .int .i64 r.2]) ∧ NumsAt w' v r.1 ∧ Hid (W.grownBy w' none) := by
  subst hr
  refine (encode_any s W hs).mono ?_
  rintro e w' ⟨v, h1, h2, h3⟩
  exact ⟨v, h1, h2, grown_bel h3 none⟩
theorem rencode_k (s : ByteArray) (hs : s.size ≤ maxLen) (r : List Nat × Int) (hr : encR s.data.toList = r) (W : World) :
    Calls Try.prog 8 #[.string s] W fun e w' => ∃ v, e = .returned (.tuple #[v, .int .i64 r.2]) ∧ NumsAt w' v r.1 ∧ Hid (W.grownBy w' none) := by
  subst hr
  refine (rencode_any s W hs).mono ?_
  rintro e w' ⟨v, h1, h2, h3⟩
  exact ⟨v, h1, h2, grown_bel h3 none⟩
theorem decode_k (v : Value) (xs : List Nat) (hx64 : ∀ x ∈ xs, x < 18446744073709551616) (r : List UInt8 × Nat × Int) (hr : decR xs = r) (W : World) (hv : NumsAt W v xs) :
    Calls Try.prog 9 #[v] W fun e w' => e = .returned (.tuple #[.string ⟨r.1.toArray⟩, .int .i64 (r.2.1 : Nat), .int .i64 r.2.2]) ∧ Hid (W.grownBy w' none) := by
  subst hr
  exact (decode_any v xs W hv hx64).mono fun e w' h => ⟨h.1, grown_bel h.2 none⟩
theorem rdecode_k (v : Value) (xs : List Nat) (hx64 : ∀ x ∈ xs, x < 18446744073709551616) (hreach : xs.length * 8 ≤ 140737488351232) (r : List UInt8 × Nat × Int) (hr : decR xs = r) (W : World) (hv : NumsAt W v xs) :
    Calls Try.prog 10 #[v] W fun e w' => e = .returned (.tuple #[.string ⟨r.1.toArray⟩, .int .i64 (r.2.1 : Nat), .int .i64 r.2.2]) ∧ Hid (W.grownBy w' none) := by
  subst hr
  exact (rdecode_any v xs W hv hx64 hreach).mono fun e w' h => ⟨h.1, grown_bel h.2 none⟩
theorem digits_k (n : Nat) (hn : n < 18446744073709551616) (r : List Nat × Int) (hr : digR n = r) (W : World) :
    Calls Try.prog 13 #[.int .u64 (n : Nat)] W fun e w' => ∃ v, e = .returned (.tuple #[v, .int .i64 r.2]) ∧ NumsAt w' v r.1 ∧ Hid (W.grownBy w' none) := by
  subst hr
  refine (digits_full n W hn).mono ?_
  rintro e w' ⟨v, h1, h2, h3⟩
  exact ⟨v, h1, h2, grown_bel h3 none⟩
theorem rdigits_k (n : Nat) (hn : n < 18446744073709551616) (r : List Nat × Int) (hr : digR n = r) (W : World) :
    Calls Try.prog 14 #[.int .u64 (n : Nat)] W fun e w' => ∃ v, e = .returned (.tuple #[v, .int .i64 r.2]) ∧ NumsAt w' v r.1 ∧ Hid (W.grownBy w' none) := by
  subst hr
  refine (rdigits_full n W hn).mono ?_
  rintro e w' ⟨v, h1, h2, h3⟩
  exact ⟨v, h1, h2, grown_bel h3 none⟩
theorem number_k (v : Value) (xs : List Nat) (r : Nat × Int) (hr : numR xs = r) (W : World) (hv : NumsAt W v xs) :
    Calls Try.prog 15 #[v] W fun e w' => e = .returned (.tuple #[.int .u64 (r.1 : Nat), .int .i64 r.2]) ∧ Hid (W.grownBy w' none) := by
  subst hr
  exact (number_any v xs W hv).mono fun e w' h => ⟨h.1, grown_bel h.2 none⟩
theorem rnumber_k (v : Value) (xs : List Nat) (r : Nat × Int) (hr : numR xs = r) (W : World) (hv : NumsAt W v xs) :
    Calls Try.prog 16 #[v] W fun e w' => e = .returned (.tuple #[.int .u64 (r.1 : Nat), .int .i64 r.2]) ∧ Hid (W.grownBy w' none) := by
  subst hr
  refine (rnumber_full v xs W hv).mono fun e w' h => ⟨h.1, ?_⟩
  rw [h.2]
  exact grown_self _ _
theorem same_k (u v : Value) (xs : List Nat) (W : World) (hu : NumsAt W u xs) (hv : NumsAt W v xs) :
    Calls Try.prog 12 #[u, v] W fun e w' => e = .returned (.bool true) ∧ Hid (W.grownBy w' none) := by
  refine (same_one W u v xs hu hv).mono ?_
  rintro e w' ⟨h, n, rfl⟩
  exact ⟨h, grown_drewN W n none⟩

set_option maxRecDepth 100000 in
set_option maxHeartbeats 4000000 in
theorem lives_any (w : World) : Calls Try.prog 11 #[] w fun e w' => e = .returned (.bool true) ∧ Hid (w.grownBy w' none) := by
  go_enter Try.func11, Try.ntmps11
  go_wp2_with fail
  refine (encode_k ⟨#[0, 0, 0, 7]⟩ (by decide) _ enc_lives _).mono ?_
  rintro e w1 ⟨a, rfl, ha, hg1⟩
  have HA := Lib.hid ha
  simp only []
  clear ha
  go_wp2_with (first
    | (at_builtin; refine wpList_add rfl (.tmp 21) (.tmp 22) 22 rfl w1.heap.size 31 (.int .u64 0) 8 elemNums _ [] rfl (Owns.none_made w1 _) _ (ncells [0, 0, 8, 257]) rfl (NumsAt.src (HA.out.grown (World.grownBy_alloc w1 _ none)) (by decide)) (ncells_one _) (by decide) (by decide) (by simp) ?_; intro v2 w2 ho2 hg2; have HO2 := Lib.hid ho2; have HG2 : Hid (w1.grownBy w2 none) := grown_bel ((bel_grown (World.grownBy_alloc w1 _ none) (Nat.le_refl _)).trans (hg2.below (Owns.none_made w1 _) (by simp))) none; clear ho2 hg2)
    | (at_builtin; refine wpList_add1 rfl (.tmp 23) (.tmp 24) 22 rfl w1.heap.size 31 (.int .u64 0) 8 elemNums _ _ rfl HO2.out (.int .u64 (9 : Nat)) rfl rfl (by decide) (by decide) HG2.out.size ?_; intro g cap w3 ho3 hg3; have HO3 := Lib.hid ho3; have HG3 := Lib.hid hg3; clear ho3 hg3))
  have HG13 : Hid (w1.grownBy w3 none) := grown_bel ((bel_grown HG2.out (Nat.le_refl _)).trans (HG3.out.below HO2.out HG2.out.size)) none
  refine (decode_k _ [0, 0, 8, 257, 9] (by decide) _ dec_lives _ (NumsAt.of_owns HO3.out (by decide))).mono ?_
  rintro e w4 ⟨rfl, hg4⟩
  simp only []
  have HA4 := Lib.hid (HA.out.grown (grown_trans HG13.out hg4.out))
  have HG04 : Hid (w.grownBy w4 none) := grown_trans hg1.out (grown_trans HG13.out hg4.out)
  clear HO3 HG3 HG13 HO2 HG2 HA hg1 hg4
  go_wp2_with fail
  refine (digits_k 4 (by omega) _ dig_lives _).mono ?_
  rintro e w5 ⟨d, rfl, hd, hg5⟩
  simp only []
  have HD5 := Lib.hid hd
  have HA5 := Lib.hid (HA4.out.grown hg5.out)
  have HG05 : Hid (w.grownBy w5 none) := grown_trans HG04.out hg5.out
  clear hd HA4 HG04 hg5
  go_wp2_with fail
  refine (number_k _ [1, 0] _ num_lives _ (NumsAt.new w5 [1, 0] _ (by decide) 2)).mono ?_
  rintro e w6 ⟨rfl, hg6⟩
  simp only []
  have HD6 := Lib.hid (HD5.out.grown (grown_trans (World.grownBy_alloc w5 _ none) hg6.out))
  have HA6 := Lib.hid (HA5.out.grown (grown_trans (World.grownBy_alloc w5 _ none) hg6.out))
  have HG06 : Hid (w.grownBy w6 none) := grown_trans HG05.out (grown_trans (World.grownBy_alloc w5 _ none) hg6.out)
  clear HD5 HA5 HG05 hg6
  go_wp2_with fail
  refine (decode_k _ [0] (by decide) _ dec_lives0 _ (NumsAt.new w6 [0] _ (by decide) 1)).mono ?_
  rintro e w7 ⟨rfl, hg7⟩
  simp only []
  have HD7 := Lib.hid (HD6.out.grown (grown_trans (World.grownBy_alloc w6 _ none) hg7.out))
  have HA7 := Lib.hid (HA6.out.grown (grown_trans (World.grownBy_alloc w6 _ none) hg7.out))
  have HG07 : Hid (w.grownBy w7 none) := grown_trans HG06.out (grown_trans (World.grownBy_alloc w6 _ none) hg7.out)
  clear HD6 HA6 HG06 hg7
  go_wp2_with fail
  refine (decode_k _ [300] (by decide) _ dec_lives300 _ (NumsAt.new w7 [300] _ (by decide) 1)).mono ?_
  rintro e w8 ⟨rfl, hg8⟩
  simp only []
  have HD8 := Lib.hid (HD7.out.grown (grown_trans (World.grownBy_alloc w7 _ none) hg8.out))
  have HA8 := Lib.hid (HA7.out.grown (grown_trans (World.grownBy_alloc w7 _ none) hg8.out))
  have HG08 : Hid (w.grownBy w8 none) := grown_trans HG07.out (grown_trans (World.grownBy_alloc w7 _ none) hg8.out)
  clear HD7 HA7 HG07 hg8
  go_wp2_with fail
  refine (same_k _ _ [0, 0, 8, 257] _ (HA8.out.grown (World.grownBy_alloc w8 _ none)) (NumsAt.new w8 [0, 0, 8, 257] _ (by decide) 4)).mono ?_
  rintro e w9 ⟨rfl, hg9⟩
  simp only []
  have HD9 := Lib.hid (HD8.out.grown (grown_trans (World.grownBy_alloc w8 _ none) hg9.out))
  have HG09 : Hid (w.grownBy w9 none) := grown_trans HG08.out (grown_trans (World.grownBy_alloc w8 _ none) hg9.out)
  clear HD8 HA8 HG08 hg9
  go_wp2_with fail
  refine (same_k _ _ [1, 0] _ (HD9.out.grown (World.grownBy_alloc w9 _ none)) (NumsAt.new w9 [1, 0] _ (by decide) 2)).mono ?_
  rintro e w10 ⟨rfl, hg10⟩
  simp only []
  have HG10 : Hid (w.grownBy w10 none) := grown_trans HG09.out (grown_trans (World.grownBy_alloc w9 _ none) hg10.out)
  clear HD9 HG09 hg10
  go_wp2_with fail
  go_ret
  exact ⟨rfl, HG10⟩
end Go.Proofs.Yteeieeoieagclaa
