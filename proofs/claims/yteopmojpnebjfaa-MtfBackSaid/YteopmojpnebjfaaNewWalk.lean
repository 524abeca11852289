/- mtf.New returns the fresh row; no condition. -/
import Derived.Test.YteopmojpnebjfaaChkWalk
namespace Go.Proofs.Yteopmojpnebjfaa
open Go.RowKit MtfPlain

def zrow : List UInt8 := List.replicate 256 0
theorem zero41 (w : World) : Sem.run Try.prog (zeroValue 41) w = .ok (.agg (bcells zrow).toArray) w := by kernel_rfl
theorem size41 : (Try.prog.info? 41).map (·.size) = some 256 := by kernel_rfl

/-- the row at the work of 'New': the first k bytes are laid -/
def newRow (k : Nat) : List UInt8 := allB.take k ++ List.replicate (256 - k) 0
theorem newRow_length (k : Nat) (h : k ≤ 256) : (newRow k).length = 256 := by simp [newRow, allB_length]; omega
theorem newRow_set (k : Nat) (h : k < 256) : (newRow k).set k (UInt8.ofNat k) = newRow (k + 1) := by
  unfold newRow
  rw [List.take_add_one, allB_at h]
  rw [List.set_append_right _ _ (by simp [allB_length]; omega)]
  have e : k - (allB.take k).length = 0 := by simp [allB_length]; omega
  rw [e, show 256 - k = (256 - (k + 1)) + 1 by omega, List.replicate_succ]
  simp

set_option maxRecDepth 100000 in
set_option maxHeartbeats 400000 in
theorem new_any (w : World) :
    Calls Try.prog 24 #[] w fun e w' => e = .returned (.agg (bcells allB).toArray) ∧ Below w.heap.size w w' := by
  have hz := zero41
  go_enter Try.func24, Try.ntmps24
  go_wp2
  go_loopw [3] (fun i wr => ∃ k : Nat, k ≤ 256 ∧ i = .int .i64 k ∧ Hid (wr.heap[w.heap.size]? = some (.cells (bcells zrow).toArray 41 (0, 0))) ∧ Hid (wr.heap[w.heap.size + 1]? = some (.cells (bcells (newRow k)).toArray 41 (0, 0))) ∧ Below w.heap.size w wr) (fun i _ => 256 - (intOf i).toNat)
  case atStart =>
    refine ⟨0, by omega, rfl, ?_, ?_, ((Below.refl _ _).alloc (Nat.le_refl _) _).alloc (by simp) _⟩
    · exact heap_alloc2_old _ _ _
    · exact heap_alloc2_new _ _ _
  case round =>
    clear hz
    obtain ⟨k, hk, rfl, H0, H1, hb⟩ := hrel
    have hl := newRow_length k hk
    by_cases hlt : k < 256
    · obtain ⟨v0, hc⟩ : ∃ v0, wr.cell? ⟨w.heap.size + 1, k, none⟩ = some (.int .u8 v0) := ⟨_, row_of_bcells H1.out k (by omega)⟩
      have hf : wr.frozen? ⟨w.heap.size + 1, k, none⟩ = false := frozen_of_row _ _ _ _ _ H1.out
      clear hl
      go_wp2
      go_roundw
      case rel =>
        refine ⟨k + 1, by omega, by go_num, ?_, ?_, hb.setCell (p := ⟨w.heap.size + 1, k, none⟩) (Nat.le_succ _) _⟩
        · show _ = _
          rw [heap_setCell_other _ _ _ _ (by simp)]; exact H0.out
        · show _ = _
          rw [heap_setCell_same _ _ _ _ _ _ H1.out, ← newRow_set k hlt]
          congr 2
          rw [List.setIfInBounds_toArray]
          congr 1
          simp only [bcells, List.map_set, toNat_ofNat_lt hlt]
      case measure => simp [intOf]; omega
    · have : k = 256 := by omega
      subst this
      have e : newRow 256 = allB := by unfold newRow; rw [List.take_of_length_le (by rw [allB_length]; omega)]; simp
      rw [e] at H1 hl
      clear hl
      have h1 : (bcells allB).toArray.all (·.oneCell') = true := by rw [Array.all_eq_true_iff_forall_mem]; intro v hv; exact bcells_one _ v (by simpa using hv)
      have hs : (Try.prog.info? 41).map (·.size) = some (bcells allB).toArray.size := by rw [size41]; simp [bcells_length, allB_length]
      have hs2 : (bcells zrow).toArray.size = (bcells allB).toArray.size := by simp [bcells_length, allB_length, zrow]
      have HA := Lib.hid h1
      have HS := Lib.hid hs
      have HS2 := Lib.hid hs2
      clear h1 hs hs2 e
      go_wp2_with (first | (refine wpList_load_row rfl 41 (.tmp 1) rfl (w.heap.size + 1) rfl 41 _ _ _ H1.out Try.underlying41 rfl HS.out ?_) | (refine wpList_store_row rfl 41 (.tmp 0) (.tmp 11) rfl w.heap.size (bcells allB).toArray rfl rfl 41 _ H0.out HS.out HS2.out HA.out ?_))
      have hrow := setRow_heap wr w.heap.size (bcells zrow).toArray (bcells allB).toArray 41 (0, 0) H0.out
      refine bodyPost_ret (v := .agg (bcells allB).toArray) (results_cell_row rfl _ _ w.heap.size 41 _ _ _ rfl hrow Try.underlying41 rfl HS.out) rfl ?_
      exact ⟨rfl, hb.trans (below_grown (grown_setRow wr w.heap.size _) (Nat.le_refl _) hb.size)⟩
end Go.Proofs.Yteopmojpnebjfaa
