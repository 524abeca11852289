/- What the reference find, front, Check and the program Check return, for every text. -/
import Derived.Test.YteopmojpnebjfaaTo
namespace Go.Proofs.Yteopmojpnebjfaa
open Go.RowKit MtfPlain

/-! ### find, front, Check of the reference -/
theorem indexByte_drop (l : List UInt8) (c : UInt8) (k : Nat) (h : ∀ j, j < k → l[j]? ≠ some c) (hk : l[k]? = some c) : Lib.indexByte l c = k := by
  induction l generalizing k with
  | nil => simp at hk
  | cons b l ih =>
    unfold Lib.indexByte
    cases k with
    | zero => simp at hk; simp [hk]
    | succ k =>
      have hb : (b == c) = false := by
        rw [beq_eq_false_iff_ne]; rintro rfl; exact h 0 (by omega) rfl
      have := ih k (fun j hj => by have := h (j + 1) (by omega); simpa using this) (by simpa using hk)
      rw [hb, this]
      have h3 : (((k : Nat) : Int) == -1) = false := by rw [beq_eq_false_iff_ne]; omega
      rw [h3]; simp
theorem indexByte_none (l : List UInt8) (c : UInt8) (h : ∀ j, j < l.length → l[j]? ≠ some c) : Lib.indexByte l c = -1 := by
  refine indexByte_not_mem fun hm => ?_
  obtain ⟨j, hj, he⟩ := List.mem_iff_getElem.1 hm
  exact h j hj (by rw [List.getElem?_eq_getElem hj, he])

set_option maxHeartbeats 400000 in
theorem find_any (row : ByteArray) (c : UInt8) (w : World) (hs : row.size ≤ maxLen) :
    Calls Try.prog 20 #[.string row, .int .u8 c.toNat] w fun e w' => e = .returned (.int .i64 (Lib.indexByte row.data.toList c)) ∧ w = w' := by
  unfold maxLen at hs
  go_enter Try.func20, Try.ntmps20
  go_wp2
  go_loop [5] (fun i => ∃ k : Nat, k ≤ row.size ∧ i = .int .i64 k ∧ Hid (∀ j, j < k → row.data.toList[j]? ≠ some c)) (fun i => row.size - (intOf i).toNat)
  case atStart => exact ⟨0, Nat.zero_le _, rfl, fun j hj => absurd hj (by omega)⟩
  case round =>
    obtain ⟨k, hk, rfl, H⟩ := hrel
    by_cases hlt : k < row.size
    · have hq := row[k].toNat_lt
      go_wp2
      · have he : ((row[k].toNat : Int) == (c.toNat : Int)) = true := by assumption
        have he' : row[k] = c := UInt8.toNat_inj.1 (by have := beq_iff_eq.1 he; omega)
        go_ret
        exact ⟨ret_int (indexByte_drop _ _ k H.out (by rw [data_at _ _ hlt, he'])).symm, rfl⟩
      · have he : ((row[k].toNat : Int) == (c.toNat : Int)) = false := by assumption
        go_round
        case rel =>
          refine ⟨k + 1, by omega, by go_num, fun j hj => ?_⟩
          by_cases hjk : j = k
          · subst hjk; rw [data_at _ _ hlt]
            intro e; injection e with e; rw [e] at he; simp at he
          · exact H.out j (by omega)
        case measure => simp [intOf]; omega
    · go_wp2
      go_ret
      have : k = row.size := by omega
      subst this
      exact ⟨ret_int (indexByte_none _ _ (fun j hj => H.out j (by simpa using hj))).symm, rfl⟩

theorem find_int (row : ByteArray) (c : Int) (w : World) (hs : row.size ≤ maxLen) (h0 : 0 ≤ c) (h1 : c < 256) :
    Calls Try.prog 20 #[.string row, .int .u8 c] w fun e w' => e = .returned (.int .i64 (Lib.indexByte row.data.toList (UInt8.ofNat c.toNat))) ∧ w = w' := by
  have := find_any row (UInt8.ofNat c.toNat) w hs
  rw [toNat_ofNat_lt (by omega)] at this
  rwa [show ((c.toNat : Nat) : Int) = c by omega] at this

set_option maxHeartbeats 400000 in
theorem front_any (row : ByteArray) (i : Nat) (w : World) (hs : row.size ≤ maxLen) (hi : i < row.size) :
    Calls Try.prog 21 #[.string row, .int .i64 i] w fun e w' => e = .returned (.string ⟨(front row.data.toList i).toArray⟩) ∧ ∃ n, w' = w.drewN n := by
  unfold maxLen at hs
  go_enter Try.func21, Try.ntmps21
  go_wp2
  go_quiet (fail)
  go_wp2
  go_ret
  refine ⟨ret_str (ba_ext ?_), nq, rfl⟩
  have e1 : (row.extract i (i + 1)).data.toList = (row.data.toList.drop i).take 1 := by rw [Lib.extract_data]; congr 1; omega
  have e2 : (row.extract 0 i).data.toList = row.data.toList.take i := by rw [Lib.extract_data]; simp
  have e3 : (row.extract (i + 1) row.size).data.toList = row.data.toList.drop (i + 1) := by rw [Lib.extract_data, List.take_of_length_le (by rw [List.length_drop, size_data]; omega)]
  simp only [ByteArray.data_append, Array.toList_append, e1, e2, e3, front, List.append_assoc]

set_option maxRecDepth 100000 in
set_option maxHeartbeats 400000 in
theorem refCheck_any (row : ByteArray) (w : World) (hs : row.size ≤ maxLen) :
    Calls Try.prog 15 #[.string row] w fun e w' => e = .returned (.int .i64 (chk row.data.toList)) ∧ w = w' := by
  by_cases h256 : row.size = 256
  · have hne : ((row.size : Int) != 256) = false := by rw [bne_eq_false_iff_eq]; omega
    have H256 := Lib.hid h256
    clear h256
    go_enter Try.func15, Try.ntmps15
    go_wp2
    go_loop [3] (fun i => ∃ k : Nat, k ≤ 256 ∧ i = .int .i64 k ∧ Hid (∀ j, j < k → UInt8.ofNat j ∈ row.data.toList)) (fun i => 256 - (intOf i).toNat)
    case atStart => exact ⟨0, by omega, rfl, fun j hj => absurd hj (by omega)⟩
    case round =>
      obtain ⟨k, hk, rfl, H⟩ := hrel
      by_cases hlt : k < 256
      · have hfd := find_int row k w hs (by omega) (by omega)
        rw [show ((k : Int).toNat) = k from by omega] at hfd
        have hge := Lib.indexByte_ge row.data.toList (UInt8.ofNat k)
        by_cases hm : UInt8.ofNat k ∈ row.data.toList
        · have h0 := (indexByte_mem hm).1
          have HF := Lib.hid hfd
          clear hfd
          go_wp2_with (go_at_call 20; refine HF.out.mono ?_; rintro e w' ⟨rfl, rfl⟩)
          go_round
          case rel =>
            refine ⟨k + 1, by omega, by go_num, fun j hj => ?_⟩
            by_cases hjk : j = k
            · subst hjk; exact hm
            · exact H.out j (by omega)
          case measure => simp [intOf]; omega
        · have h0 := indexByte_not_mem hm
          rw [h0] at hfd
          have HF := Lib.hid hfd
          clear hfd h0 hge
          go_wp2_with (go_at_call 20; refine HF.out.mono ?_; rintro e w' ⟨rfl, rfl⟩)
          go_ret
          refine ⟨ret_int ?_, rfl⟩
          rcases chk_cases row.data.toList with h | h
          · exact absurd (h.2.2 _) hm
          · exact h.1.symm
      · go_wp2
        go_ret
        refine ⟨ret_int ?_, rfl⟩
        rcases chk_cases row.data.toList with h | h
        · exact h.1.symm
        · refine absurd ⟨by rw [size_data]; exact H256.out, fun c => ?_⟩ h.2
          have := H.out c.toNat (by have := c.toNat_lt; omega)
          simpa using this
  · have hne : ((row.size : Int) != 256) = true := by rw [bne_iff_ne]; omega
    go_enter Try.func15, Try.ntmps15
    go_wp2
    go_ret
    refine ⟨ret_int ?_, rfl⟩
    rcases chk_cases row.data.toList with h | h
    · exact absurd h.2.1 (by rw [size_data]; exact h256)
    · exact h.1.symm

/-! ### Check of the program -/
/-- the cells of 'had' behind some bytes -/
def hadCells (l : List UInt8) : Array Value := (allB.map fun c => Value.bool (l.contains c)).toArray
theorem zero44 (w : World) : Sem.run Try.prog (zeroValue 44) w = .ok (.agg (hadCells [])) w := by kernel_rfl

theorem hadCells_at (l : List UInt8) (c : UInt8) : (hadCells l)[c.toNat]? = some (.bool (l.contains c)) := by
  have h : allB[c.toNat]? = some c := by
    unfold allB
    rw [List.getElem?_map, List.getElem?_range c.toNat_lt]
    simp
  unfold hadCells
  rw [List.getElem?_toArray, List.getElem?_map, h]
  rfl
theorem allB_at {i : Nat} (hi : i < 256) : allB[i]? = some (UInt8.ofNat i) := by
  unfold allB
  rw [List.getElem?_map, List.getElem?_range hi]; rfl
theorem hadCells_set (l : List UInt8) (c : UInt8) : (hadCells l).setIfInBounds c.toNat (.bool true) = hadCells (l ++ [c]) := by
  unfold hadCells
  rw [List.setIfInBounds_toArray]
  congr 1
  apply List.ext_getElem?
  intro i
  rw [List.getElem?_set]
  simp only [List.getElem?_map, List.length_map]
  rw [allB_length]
  by_cases hi : i < 256
  · rw [allB_at hi]
    by_cases hc : c.toNat = i
    · subst hc
      simp [hi]
    · have hne : UInt8.ofNat i ≠ c := by
        rintro rfl
        exact hc (toNat_ofNat_lt hi)
      simp [hc, hne]
  · have : allB[i]? = none := List.getElem?_eq_none (by rw [allB_length]; omega)
    rw [this, if_neg (by have := c.toNat_lt; omega)]
    rfl

set_option maxRecDepth 100000 in
set_option maxHeartbeats 400000 in
theorem check_any (row : ByteArray) (w : World) :
    Calls Try.prog 14 #[.string row] w fun e w' => e = .returned (.int .i64 (chk row.data.toList)) ∧ Below w.heap.size w w' := by
  have hz := zero44
  by_cases h256 : row.size = 256
  · have hne : ((row.size : Int) != 256) = false := by rw [bne_eq_false_iff_eq]; omega
    have hgt : 256 ≤ row.size := by omega
    have H256 := Lib.hid h256
    clear h256
    go_enter Try.func14, Try.ntmps14
    go_wp2
    go_loopw [8] (fun i wr => ∃ k : Nat, k ≤ 256 ∧ i = .int .i64 k ∧ Hid (wr.heap[w.heap.size]? = some (.cells (hadCells (row.data.toList.take k)) 44 (0, 0))) ∧ Hid ((row.data.toList.take k).Nodup) ∧ Below w.heap.size w wr) (fun i _ => 256 - (intOf i).toNat)
    case atStart => exact ⟨0, by omega, rfl, heap_alloc_new _ _, List.nodup_nil, (Below.refl _ _).alloc (Nat.le_refl _) _⟩
    case round =>
      obtain ⟨k, hk, rfl, HB, HN, hb⟩ := hrel
      by_cases hlt : k < 256
      · have hks : k < row.size := by omega
        have hks' : k < row.data.toList.length := by rw [size_data]; exact hks
        have hq := row[k].toNat_lt
        have hc : wr.cell? ⟨w.heap.size, row[k].toNat, none⟩ = some (.bool ((row.data.toList.take k).contains row[k])) := by
          rw [cell_of_row _ _ _ _ _ _ HB.out, hadCells_at]
        have hf : wr.frozen? ⟨w.heap.size, row[k].toNat, none⟩ = false := frozen_of_row _ _ _ _ _ HB.out
        have htk : row.data.toList.take (k + 1) = row.data.toList.take k ++ [row[k]] := by
          rw [List.take_add_one, data_at _ _ hks]; rfl
        have HT := Lib.hid htk
        have HNd := Lib.hid (show (row.data.toList.take k).Nodup from HN.out)
        clear htk
        go_wp2
        · have hm : row[k] ∈ row.data.toList.take k := by assumption
          go_ret
          refine ⟨ret_int ?_, hb⟩
          rcases chk_cases row.data.toList with h | h
          · exfalso
            have hnd := nodup_of_full h.2
            have h2 : (row.data.toList.take (k + 1)).Nodup := (List.take_sublist _ _).nodup hnd
            rw [HT.out, List.nodup_append] at h2
            exact h2.2.2 _ hm _ (List.mem_singleton.2 rfl) rfl
          · exact h.1.symm
        · have hm : ¬ row[k] ∈ row.data.toList.take k := by assumption
          go_roundw
          case rel =>
            refine ⟨k + 1, by omega, by go_num, ?_, ?_, hb.setCell (p := ⟨w.heap.size, row[k].toNat, none⟩) (Nat.le_refl _) _⟩
            · show _ = _
              rw [heap_setCell_same _ _ _ _ _ _ HB.out, hadCells_set, HT.out]
            · show List.Nodup _
              rw [HT.out, List.nodup_append]
              refine ⟨HN.out, by simp, fun a ha b hb => ?_⟩
              rw [List.mem_singleton] at hb
              subst hb
              rintro rfl
              exact hm ha
          case measure => simp [intOf]; omega
      · go_wp2
        go_ret
        refine ⟨ret_int ?_, hb⟩
        rcases chk_cases row.data.toList with h | h
        · exact h.1.symm
        · have h3 := HN.out
          rw [List.take_of_length_le (by rw [size_data]; have := H256.out; omega)] at h3
          exact absurd (full_of_nodup (by rw [size_data]; exact H256.out) h3) h.2
  · have hne : ((row.size : Int) != 256) = true := by rw [bne_iff_ne]; omega
    go_enter Try.func14, Try.ntmps14
    go_wp2
    go_ret
    refine ⟨ret_int ?_, Below.refl _ _⟩
    rcases chk_cases row.data.toList with h | h
    · exact absurd h.2.1 (by rw [size_data]; exact h256)
    · exact h.1.symm
end Go.Proofs.Yteopmojpnebjfaa
