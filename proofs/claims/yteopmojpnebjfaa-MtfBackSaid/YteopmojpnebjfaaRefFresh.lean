/- The reference Fresh returns the fresh row; no condition. -/
import Derived.Test.YteopmojpnebjfaaOpenWalk
namespace Go.Proofs.Yteopmojpnebjfaa
open Go.RowKit MtfPlain

theorem make37 (w : World) : Sem.run Try.prog (Instr.makeSlice 37 (Value.int IntKind.i64 256) (Value.int IntKind.i64 256)) w = .ok (.slice (some ⟨w.heap.size, 0, none⟩) 256 256) (w.alloc (.cells (bcells zrow).toArray 5)) := by kernel_rfl

set_option maxRecDepth 100000 in
set_option maxHeartbeats 400000 in
theorem refFresh_any (w : World) :
    Calls Try.prog 17 #[] w fun e w' => e = .returned (.string ⟨allB.toArray⟩) ∧ Below w.heap.size w w' := by
  have hmk := make37
  go_enter Try.func17, Try.ntmps17
  go_wp2
  go_loopw [6] (fun i wr => ∃ k : Nat, k ≤ 256 ∧ i = .int .i64 k ∧ Hid (wr.heap[w.heap.size]? = some (.cells (bcells (newRow k)).toArray 5 (0, 0))) ∧ Below w.heap.size w wr) (fun i _ => 256 - (intOf i).toNat)
  case atStart =>
    exact ⟨0, by omega, rfl, heap_alloc_new _ _, (Below.refl _ _).alloc (Nat.le_refl _) _⟩
  case round =>
    clear hmk
    obtain ⟨k, hk, rfl, H1, hb⟩ := hrel
    have hl := newRow_length k hk
    by_cases hlt : k < 256
    · obtain ⟨v0, hc⟩ : ∃ v0, wr.cell? ⟨w.heap.size, k, none⟩ = some (.int .u8 v0) := ⟨_, row_of_bcells H1.out k (by omega)⟩
      have hf : wr.frozen? ⟨w.heap.size, k, none⟩ = false := frozen_of_row _ _ _ _ _ H1.out
      clear hl
      go_wp2
      go_roundw
      case rel =>
        refine ⟨k + 1, by omega, by go_num, ?_, hb.setCell (p := ⟨w.heap.size, k, none⟩) (Nat.le_refl _) _⟩
        show _ = _
        rw [heap_setCell_same _ _ _ _ _ _ H1.out, ← newRow_set k hlt]
        congr 2
        rw [List.setIfInBounds_toArray]
        congr 1
        simp only [bcells, List.map_set, toNat_ofNat_lt hlt]
      case measure => simp [intOf]; omega
    · have : k = 256 := by omega
      subst this
      have e : newRow 256 = allB := by unfold newRow; rw [List.take_of_length_le (by rw [allB_length]; omega)]; simp
      rw [e] at H1
      clear hl e
      go_wp2_with (refine wpList_conv_bytes rfl 37 9 5 (.tmp 15) rfl Try.underlying37 Try.underlying5 Try.underlying9 _ 0 256 256 rfl allB allB_length (fun j hj => by rw [Nat.zero_add]; exact row_of_bcells H1.out j hj) ?_)
      go_ret
      exact ⟨rfl, hb⟩
end Go.Proofs.Yteopmojpnebjfaa
