/- Records are split. -/
import Derived.Test.YtihohljhjdmamaaKept17
namespace Go.Proofs.Ytihohljhjdmamaa
open Go.RowKit
set_option linter.unusedVariables false

def strLen : Value → Nat
  | .string s => s.size
  | _ => 0
theorem extract_list (s : ByteArray) (a : Nat) : (s.extract a s.size).data.toList = s.data.toList.drop a := by
  obtain ⟨⟨l⟩⟩ := s
  simp [ByteArray.size]
  exact List.take_of_length_le (by simp)
theorem fm_drop (l : List Nat) : ∀ k (h : k < l.length), (l.flatMap b5).drop (5 * k) = b5 l[k] ++ (l.drop (k + 1)).flatMap b5 := by
  induction l with
  | nil => intro k h; simp at h
  | cons x l ih =>
    intro k h
    match k with
    | 0 => simp
    | k + 1 =>
      rw [List.flatMap_cons, show 5 * (k + 1) = (b5 x).length + 5 * k by simp [b5]; omega, List.drop_append, List.drop_of_length_le (by omega), List.nil_append, Nat.add_sub_cancel_left]
      simp only [List.getElem_cons_succ, List.drop_succ_cons]
      exact ih k (by simpa using h)
set_option maxRecDepth 100000 in
set_option maxHeartbeats 2000000 in
theorem split_ok (s : ByteArray) (l : List Nat) (hs : s.data.toList = l.flatMap b5) (h1 : 1 ≤ l.length) (h8 : l.length ≤ 8) (hl : ∀ x ∈ l, x < 1099511627776) (w : World) :
    Calls Try.prog 12 #[.string s, .int .i64 (l.length : Nat)] w fun e w' => ∃ (g cap : Nat) (v : Value), e = .returned (.tuple #[.slice (some ⟨g, 0, none⟩) 1 cap, .int .i64 0]) ∧ w'.cell? ⟨g, 0, none⟩ = some v ∧ NumsAt w' v l ∧ Hid (w.grownBy w' none) := by
  have hsz : s.size = 5 * l.length := by rw [← size_data, hs, fm_len]
  have hmk := fun W => run_makeNums l.length (by omega) W
  simp only [nrow_zero] at hmk
  obtain ⟨n, hn⟩ : ∃ n, n = l.length := ⟨_, rfl⟩
  have HX : Hid (∀ k, k < n → ∃ y : Nat, y < 1099511627776 ∧ (∀ W, Calls Try.prog 29 #[.string (s.extract (5 * k) s.size)] W fun e w' => e = .returned (.int .u64 (y : Nat)) ∧ w' = W) ∧ (nrow l k).setIfInBounds k (.int .u64 (y : Nat)) = nrow l (k + 1)) := fun k hk => by
    have hk' : k < l.length := by omega
    refine ⟨l[k], hl _ (List.getElem_mem _), fun W => of_any _ l[k] ((l.drop (k + 1)).flatMap b5) ?_ (hl _ (List.getElem_mem _)) ?_ W, nrow_set l k hk'⟩
    · rw [extract_list, hs, fm_drop l k hk']
    · rw [← size_data, extract_list, List.length_drop, size_data]; omega
  have HC : Hid (∀ (W : World) G k, W.heap[G]? = some (.cells (nrow l k) 51 (0, 0)) → k < n → ∃ v, W.cell? ⟨G, k, none⟩ = some v) := fun W G k h hk => nrow_cell h (by omega)
  have HA : Hid (nrow l n = (ncells l).toArray) := by show _ = _; rw [hn]; exact nrow_all l
  have HE : Hid ((s.extract (5 * n) s.size).toList = []) := by
    show _ = _
    rw [ByteArray.toList_eq, extract_list, List.drop_of_length_le (by rw [size_data]; omega)]
  have HEs : Hid ((s.extract (5 * n) s.size).size = 0) := by
    show _ = _
    rw [← size_data, extract_list, List.length_drop, size_data]; omega
  have hne : (s.toList == []) = false := by
    cases h : (s.toList == []) with
    | false => rfl
    | true =>
      have h2 : s.toList = [] := by simpa using h
      rw [ByteArray.toList_eq] at h2
      have := size_data s
      rw [h2] at this
      simp at this; omega
  rw [← hn] at hmk hsz h1 h8 ⊢
  have hmod : ((s.size : Nat) : Int) % (5 * (n : Int)) = 0 := by
    rw [hsz, show ((5 * n : Nat) : Int) = 5 * (n : Int) by omega]
    exact Int.emod_self
  have h1i : 1 ≤ (n : Int) := by omega
  have h8i : (n : Int) ≤ 8 := by omega
  have hszi : ((s.size : Nat) : Int) = 5 * (n : Int) := by omega
  have HL : Hid (l.length = n) := hn.symm
  have Hszn := Lib.hid hsz
  have hszl : ((s.size : Nat) : Int) ≤ 40 := by omega
  clear hs hl hn hsz hszi
  go_enter Try.func12, Try.ntmps12
  go_wp2_with fail
  clear hmod
  go_loopw [0, 6] (fun sv ov wr => (sv = .string s ∧ ov = .slice none 0 0 ∧ wr = w) ∨ (sv = .string (s.extract (5 * n) s.size) ∧ ∃ (g cap : Nat) (v : Value), ov = .slice (some ⟨g, 0, none⟩) 1 cap ∧ Hid (wr.cell? ⟨g, 0, none⟩ = some v) ∧ Hid (NumsAt wr v l) ∧ Hid (w.grownBy wr none))) (fun sv _ _ => strLen sv)
  case atStart => exact .inl ⟨rfl, rfl, rfl⟩
  case round =>
    rcases hrel with ⟨rfl, rfl, hw⟩ | ⟨rfl, g, cap, v, rfl, hc, hv, hg⟩
    · obtain rfl : w = wr := hw.symm
      have q0 := Lib.hid (heap_alloc_new w (.cells (nrow l 0) 51))
      have g0 := Lib.hid (World.grownBy_alloc w (.cells (nrow l 0) 51) none)
      go_wp2_with fail
      clear hmk
      obtain ⟨G, hG⟩ : ∃ G, G = w.heap.size := ⟨_, rfl⟩
      have hGw : Hid (G = w.heap.size) := hG
      rw [← hG] at q0 ⊢
      clear hG
      go_loopw [33] (fun iv wr => ∃ k : Nat, iv = .int .i64 (k : Nat) ∧ k ≤ n ∧ Hid (wr.heap[G]? = some (.cells (nrow l k) 51 (0, 0))) ∧ Hid (w.grownBy wr none)) (fun iv _ => n - (intOf iv).toNat)
      case atStart => exact ⟨0, rfl, Nat.zero_le _, q0, g0⟩
      case round =>
        clear q0 g0
        obtain ⟨k, rfl, hk, hq, hg⟩ := hrel
        by_cases hlt : k < n
        · obtain ⟨y, hy, HOf, hset⟩ := HX.out k hlt
          have HOf' := Lib.hid HOf
          have HSet := Lib.hid hset
          obtain ⟨v0, hv0⟩ := HC.out wr G k hq.out hlt
          have hki : (k : Int) < (n : Int) := by omega
          have hks : 5 * (k : Int) ≤ (s.size : Int) := by have := Hszn.out; omega
          have hks0 : 5 * k ≤ s.size := by have := Hszn.out; omega
          have hcap : 5 * k < 5 * n := by omega
          clear HOf hset
          go_wp2_with fail
          refine (HOf'.out _).mono ?_
          rintro e w2 ⟨rfl, hw2⟩
          obtain rfl : wr = w2 := hw2.symm
          simp only []
          have hfz := row_free hq.out k
          have q1 := Lib.hid (heap_setCell_same wr G k _ _ (.int .u64 (y : Nat)) hq.out)
          have g1 := Lib.hid (grown_setCell wr ⟨G, k, none⟩ (.int .u64 (y : Nat)))
          go_wp2_with fail
          refine ⟨⟨k + 1, by rw [Int.natCast_add]; rfl, by omega, ?_, grown_own hg.out g1.out (by rw [hGw.out]; exact Nat.le_refl _)⟩, by simp [intOf] <;> omega⟩
          show _ = _
          rw [← HSet.out]
          exact q1.out
        · obtain rfl : k = n := by omega
          have Ho6 : Hid (Owns wr w.heap.size 22 (.slice none 0 0) []) := Owns.nil _ _ _
          have hqa := hq.out
          rw [HA.out] at hqa
          have Hqa := Lib.hid hqa
          have Hl1 : Hid (((([] : List Value)).length + 1) * 24 ≤ 140737488355328) := by show _ ≤ _; simp
          have Hl2 : Hid ((([] : List Value)).length + 1 ≤ maxLen) := by show _ ≤ _; simp [maxLen]
          have HBx : Hid (w.heap.size ≤ wr.heap.size) := hg.out.size
          have hkk : (k : Int) ≤ (k : Int) := Int.le_refl _
          have hks : 5 * (k : Int) ≤ (s.size : Int) := by have := Hszn.out; omega
          have hks0 : 5 * k ≤ s.size := by have := Hszn.out; omega
          clear hqa
          go_wp2_with (first
            | (at_builtin; refine wpList_add1 rfl (.tmp 45) (.tmp 47) 42 rfl w.heap.size 22 (.slice none 0 0) 24 elemLists _ [] rfl Ho6.out (.slice (some ⟨G, 0, none⟩) k k) (by simp [go_sem]) rfl Hl1.out Hl2.out HBx.out ?_; intro g2 cap2 w6 ho6 hg6; have HO6 := Lib.hid ho6; have HG6 := Lib.hid hg6; clear ho6 hg6)
            | fail)
          have hg7 : wr.grownBy w6 none := (show Grew wr (.slice none 0 0) w6 (.slice (some ⟨g2, 0, none⟩) 1 cap2) from HG6.out).grown
          have hc7 : w6.cell? ⟨g2, 0, none⟩ = some (.slice (some ⟨G, 0, none⟩) k k) := HO6.out.cell 0 (by simp)
          have hq7 := row_kept Hqa.out hg7 (by simp)
          refine ⟨.inr ⟨rfl, g2, cap2, _, rfl, hc7, ?_, grown_trans hg.out hg7⟩, ?_⟩
          · show NumsAt _ _ _
            refine ⟨some ⟨G, 0, none⟩, k, by rw [HL.out], by rw [HL.out]; unfold maxLen; omega, fun i hi => ⟨_, rfl, ?_⟩⟩
            rw [add_plain, Nat.zero_add]
            exact row_cell hq7 i _ (by simp [ncells, hi])
          · have := HEs.out
            have := Hszn.out
            simp [strLen]
            omega
    · have he : ((s.extract (5 * n) s.size).toList == []) = true := by rw [HE.out]; rfl
      go_wp2_with fail
      go_ret2
      exact ⟨g, cap, v, rfl, hc.out, hv.out, hg⟩
end Go.Proofs.Ytihohljhjdmamaa
