/- mtf.Fresh returns the fresh row, and mtf.open the row where it is right; no condition. -/
import Derived.Test.YteopmojpnebjfaaNewWalk
namespace Go.Proofs.Yteopmojpnebjfaa
open Go.RowKit MtfPlain

theorem laid_row (w1 : World) (z r : List UInt8) (j : Nat) (hj : j < r.length) :
    ((w1.alloc (.cells (bcells z).toArray 41)).setRow w1.heap.size (bcells r).toArray).cell? ⟨w1.heap.size, 0 + j, none⟩ = some (.int .u8 (r[j].toNat : Int)) := by
  rw [Nat.zero_add]
  exact row_of_bcells (setRow_heap _ _ _ _ _ _ (heap_alloc_new _ _)) j hj

set_option maxRecDepth 100000 in
set_option maxHeartbeats 400000 in
theorem fresh_any (w : World) :
    Calls Try.prog 16 #[] w fun e w' => e = .returned (.string ⟨allB.toArray⟩) ∧ Below w.heap.size w w' := by
  have hz := zero41
  have HZ2 := Lib.hid (show (bcells zrow).toArray.size = (bcells allB).toArray.size by simp [bcells_length, allB_length, zrow])
  have HS := Lib.hid (show (Try.prog.info? 41).map (·.size) = some (bcells allB).toArray.size by rw [size41]; simp [bcells_length, allB_length])
  have HA := Lib.hid (show (bcells allB).toArray.all (·.oneCell') = true by rw [Array.all_eq_true_iff_forall_mem]; intro v hv; exact bcells_one _ v (by simpa using hv))
  go_enter Try.func16, Try.ntmps16
  go_wp2_with (first | (go_at_call 24; refine (new_any _).mono ?_; rintro e w1 ⟨rfl, hb⟩) | (refine wpList_store_row rfl 41 (.tmp 1) (.tmp 2) rfl _ (bcells allB).toArray rfl rfl 41 (bcells zrow).toArray (heap_alloc_new _ _) HS.out HZ2.out HA.out ?_) | (refine wpList_conv_bytes rfl 37 9 5 (.tmp 3) rfl Try.underlying37 Try.underlying5 Try.underlying9 _ 0 256 256 rfl allB allB_length (laid_row w1 zrow allB) ?_))
  go_ret
  refine ⟨rfl, ?_⟩
  exact (hb.alloc hb.size _).trans (below_grown (grown_setRow _ _ _) hb.size (by have := hb.size; simp; omega))

set_option maxRecDepth 100000 in
set_option maxHeartbeats 400000 in
/-- open: a right row is laid into the array, else it stays the zero one. -/
theorem open_any (row : ByteArray) (w : World) :
    Calls Try.prog 23 #[.string row] w fun e w' => ∃ r, e = .returned (.tuple #[.agg (bcells r).toArray, .int .i64 (chk row.data.toList)]) ∧ r.length = 256 ∧ (full row.data.toList → r = row.data.toList) ∧ Below w.heap.size w w' := by
  have hz := zero41
  have HS := Lib.hid size41
  rcases chk_cases row.data.toList with ⟨hc, hf⟩ | ⟨hc, hf⟩
  · have HF := Lib.hid hf
    clear hf
    have hck := (check_any row)
    rw [hc] at hck ⊢
    have HC := Lib.hid hck
    clear hck hc
    have hsz : row.size = 256 := by rw [← size_data]; exact HF.out.1
    have hX : ((bcells zrow).toArray.toList.take 0 ++ bcells row.data.toList ++ (bcells zrow).toArray.toList.drop (0 + row.size)).toArray = (bcells row.data.toList).toArray := by
      rw [hsz]; simp [bcells, zrow]
    have hbl : (bcells row.data.toList).length = 256 := by rw [bcells_length, size_data, hsz]
    have HX := Lib.hid hX
    have HL1 := Lib.hid (show row.size ≤ 256 by omega)
    have HL2 := Lib.hid (show 0 + row.size ≤ (bcells zrow).toArray.size by rw [hsz]; simp [bcells, zrow])
    have HSr := Lib.hid (show (Try.prog.info? 41).map (·.size) = some (bcells row.data.toList).toArray.size by rw [size41]; simp [hbl])
    have HSz := Lib.hid (show (bcells zrow).toArray.size = (bcells row.data.toList).toArray.size by rw [List.size_toArray, List.size_toArray, hbl, bcells_length]; rfl)
    have HA := Lib.hid (show (bcells row.data.toList).toArray.all (·.oneCell') = true by rw [Array.all_eq_true_iff_forall_mem]; intro v hv; exact bcells_one _ v (by simpa using hv))
    clear hX hsz hbl
    go_enter Try.func23, Try.ntmps23
    go_wp2_with (first
      | (go_at_call 14; refine (HC.out _).mono ?_; rintro e w1 ⟨rfl, hb⟩; have HG1 := Lib.hid ((hb.block (w.heap.size + 1) (by simp)).trans (heap_alloc2_new w _ _)); have HG0 := Lib.hid ((hb.block w.heap.size (by simp; omega)).trans (heap_alloc2_old w _ _)); have HB := Lib.hid ((((Below.refl w.heap.size w).alloc (Nat.le_refl _) _).alloc (by simp) _).trans (hb.mono (by simp; omega))); clear hb)
      | (refine wpList_copy_str rfl (.tmp 10) (.tmp 11) 37 9 rfl 5 Try.underlying37 (by kernel_rfl) (w.heap.size + 1) 0 256 256 row rfl rfl (bcells zrow).toArray 41 HG1.out HL1.out HL2.out ?_)
      | (refine wpList_load_row rfl 41 (.tmp 4) rfl (w.heap.size + 1) rfl 41 (bcells row.data.toList).toArray (0, 0) _ ((setRow_heap _ _ _ _ _ _ HG1.out).trans (by rw [HX.out])) Try.underlying41 rfl HSr.out ?_)
      | (refine wpList_store_row rfl 41 (.tmp 2) (.tmp 13) rfl w.heap.size (bcells row.data.toList).toArray rfl rfl 41 _ ((setRow_other _ _ _ _ (by omega)).trans HG0.out) HSr.out HSz.out HA.out ?_))
    have hrow := setRow_heap (w1.setRow (w.heap.size + 1) (bcells row.data.toList ++ List.drop row.size (bcells zrow)).toArray) w.heap.size (bcells zrow).toArray (bcells row.data.toList).toArray 41 (0, 0) ((setRow_other _ _ _ _ (by omega)).trans HG0.out)
    refine bodyPost_ret (v := .tuple #[.agg (bcells row.data.toList).toArray, .int .i64 0]) (results_row_tmp (fn := Try.f23) (p := 2) (q := 3) (ty := 41) rfl _ _ w.heap.size 41 _ _ _ rfl hrow Try.underlying41 rfl HSr.out) rfl ?_
    refine ⟨row.data.toList, rfl, HF.out.1, fun _ => rfl, ?_⟩
    refine HB.out.trans ?_
    refine (below_grown (grown_setRow w1 (w.heap.size + 1) _) (Nat.le_succ _) HB.out.size).trans (below_grown (grown_setRow _ w.heap.size _) (Nat.le_refl _) (by rw [size_setRow]; exact HB.out.size))
  · have HF := Lib.hid hf
    clear hf
    have hck := (check_any row)
    rw [hc] at hck ⊢
    have HC := Lib.hid hck
    clear hck hc
    have HSr := Lib.hid (show (Try.prog.info? 41).map (·.size) = some (bcells zrow).toArray.size by rw [size41]; simp [bcells_length, zrow])
    have HA := Lib.hid (show (bcells zrow).toArray.all (·.oneCell') = true by rw [Array.all_eq_true_iff_forall_mem]; intro v hv; exact bcells_one _ v (by simpa using hv))
    go_enter Try.func23, Try.ntmps23
    go_wp2_with (first
      | (go_at_call 14; refine (HC.out _).mono ?_; rintro e w1 ⟨rfl, hb⟩; have HG1 := Lib.hid ((hb.block (w.heap.size + 1) (by simp)).trans (heap_alloc2_new w _ _)); have HG0 := Lib.hid ((hb.block w.heap.size (by simp; omega)).trans (heap_alloc2_old w _ _)); have HB := Lib.hid ((((Below.refl w.heap.size w).alloc (Nat.le_refl _) _).alloc (by simp) _).trans (hb.mono (by simp; omega))); clear hb)
      | (refine wpList_load_row rfl 41 (.tmp 4) rfl (w.heap.size + 1) rfl 41 (bcells zrow).toArray (0, 0) _ HG1.out Try.underlying41 rfl HSr.out ?_)
      | (refine wpList_store_row rfl 41 (.tmp 2) (.tmp 13) rfl w.heap.size (bcells zrow).toArray rfl rfl 41 _ HG0.out HSr.out rfl HA.out ?_))
    have hrow := setRow_heap w1 w.heap.size (bcells zrow).toArray (bcells zrow).toArray 41 (0, 0) HG0.out
    refine bodyPost_ret (v := .tuple #[.agg (bcells zrow).toArray, .int .i64 2]) (results_row_tmp (fn := Try.f23) (p := 2) (q := 3) (ty := 41) rfl _ _ w.heap.size 41 _ _ _ rfl hrow Try.underlying41 rfl HSr.out) rfl ?_
    exact ⟨zrow, rfl, by simp [zrow], fun h => absurd h HF.out, HB.out.trans (below_grown (grown_setRow _ w.heap.size _) (Nat.le_refl _) HB.out.size)⟩

end Go.Proofs.Yteopmojpnebjfaa
