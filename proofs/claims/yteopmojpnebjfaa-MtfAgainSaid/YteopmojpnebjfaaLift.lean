/- What (*mtf.Row).lift does to a row in memory; its place is below 256. -/
import Derived.Test.YteopmojpnebjfaaRows
import Derived.Test.YteopmojpnebjfaaPlain
import Derived.Test.YteopmojpnebjfaaKit
import Derived.Deep.QuietTactic
import Derived.BigQuiet
import Derived.Handy
import Derived.StillTailTactics
namespace Go.Proofs.Yteopmojpnebjfaa
open Go.RowKit MtfPlain

set_option maxRecDepth 100000 in
set_option maxHeartbeats 400000 in
theorem lift_any (b : Nat) (r : List UInt8) (i : Nat) (w : World) (hr : r.length = 256) (hi : i < 256) (hb : w.heap[b]? = some (.cells (bcells r).toArray 41 (0, 0))) :
    Calls Try.prog 28 #[.pointer (some ⟨b, 0, none⟩), .int .i64 i] w fun e w' => e = .returned (.int .u8 (r.getD i 0).toNat) ∧
      w'.heap[b]? = some (.cells (bcells (front r i)).toArray 41 (0, 0)) ∧ w.grownBy w' (some b) := by
  have hi' : i < r.length := by omega
  have hcell : w.cell? ⟨b, i, none⟩ = some (.int .u8 (r[i].toNat : Int)) := row_of_bcells hb i hi'
  have hi1 : (i : Int) ≤ 256 := by omega
  have hi2 : (0 : Int) ≤ (i : Int) := by omega
  have hi3 : i ≤ 256 := by omega
  have HB := Lib.hid hb
  have HR := Lib.hid hr
  clear hb hr
  go_enter Try.func28, Try.ntmps28
  go_wp2
  go_still_tail 7, (by kernel_rfl)
  change wpList _ _ _ _ _ w.drew
  have hl : ((bcells r).take i).length = i := by rw [List.length_take, bcells_length, HR.out]; omega
  refine wpList_copy_own rfl (.tmp 13) (.tmp 17) 37 37 rfl 5 Try.underlying37 (by kernel_rfl) b 1 255 255 ⟨b, 0, none⟩ i 256 rfl rfl (bcells r).toArray 41 HB.out ((bcells r).take i) ?_ ?_ ?_ ?_ ?_
  · rw [hl]; show i = min i 255; omega
  · intro j v hj
    rw [add_plain, Nat.zero_add, cell_of_row _ b j _ 41 _ (show w.drew.heap[b]? = _ from HB.out)]
    rw [List.getElem?_take] at hj
    split at hj
    · simpa using hj
    · cases hj
  · rw [hl]; simp [bcells_length, HR.out]; omega
  · intro v hv; exact bcells_one _ v (List.mem_of_mem_take hv)
  have hrow := setRow_heap w.drew b (bcells r).toArray ((bcells r).toArray.toList.take 1 ++ ((bcells r).take i ++ (bcells r).toArray.toList.drop (1 + ((bcells r).take i).length))).toArray 41 (0, 0) HB.out
  have hgr := grown_trans (grown_drew w (some b)) (grown_setRow w.drew b ((bcells r).toArray.toList.take 1 ++ ((bcells r).take i ++ (bcells r).toArray.toList.drop (1 + ((bcells r).take i).length))).toArray)
  rw [hl] at hrow hgr ⊢
  generalize w.drew.setRow b _ = w1 at hrow hgr ⊢
  have c0 : w1.cell? ⟨b, 0, none⟩ = some (.int .u8 (r[0].toNat : Int)) := by
    rw [cell_of_row _ _ _ _ _ _ hrow]
    cases r with
    | nil => simp at hi'
    | cons x xs => simp [bcells]
  have f0 : w1.frozen? ⟨b, 0, none⟩ = false := frozen_of_row _ _ _ _ _ hrow
  have HRow := Lib.hid hrow
  clear hrow
  go_wp2
  go_ret
  have hset := heap_setCell_same w1 b 0 _ 41 (.int .u8 (r[i].toNat : Int)) HRow.out
  refine ⟨rfl, ?_, grown_trans hgr (grown_setCell w1 ⟨b, 0, none⟩ _)⟩
  rw [hset]
  congr 2
  rw [front_eq hi']
  cases r with
  | nil => simp at hi'
  | cons x xs => simp [bcells, Nat.add_comm]
end Go.Proofs.Yteopmojpnebjfaa
