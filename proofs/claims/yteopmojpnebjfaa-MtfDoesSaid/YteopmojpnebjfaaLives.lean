/- mtf.Front returns what the plain law tells, and the laws lives returns true. -/
import Derived.Test.YteopmojpnebjfaaRefWalk
namespace Go.Proofs.Yteopmojpnebjfaa
open Go.RowKit MtfPlain

theorem zrow_length : zrow.length = 256 := List.length_replicate
theorem row_store (r : List UInt8) (hr : r.length = 256) : (Try.prog.info? 41).map (·.size) = some (bcells r).toArray.size ∧ (bcells zrow).toArray.size = (bcells r).toArray.size ∧ (bcells r).toArray.all (·.oneCell') = true :=
  ⟨by rw [size41]; simp [bcells_length, hr], by rw [List.size_toArray, List.size_toArray, bcells_length, bcells_length, hr, zrow_length],
    by rw [Array.all_eq_true_iff_forall_mem]; intro v hv; exact bcells_one _ v (by simpa using hv)⟩

set_option maxRecDepth 100000 in
set_option maxHeartbeats 1000000 in
theorem mtfFront_any (row : ByteArray) (c : UInt8) (w : World) :
    Calls Try.prog 11 #[.string row, .int .u8 c.toNat] w fun e w' => e = .returned (F3 (toldF row.data.toList c)) ∧ Below w.heap.size w w' := by
  have hz := zero41
  rcases chk_cases row.data.toList with ⟨hc, hf⟩ | ⟨hc, hf⟩
  · have HO : Hid (∀ w, Calls Try.prog 23 #[.string row] w fun e w' => e = .returned (.tuple #[.agg (bcells row.data.toList).toArray, .int .i64 0]) ∧ Below w.heap.size w w') := by
      intro w
      refine (open_any row w).mono ?_
      rintro e w' ⟨r, rfl, _, hr, hb⟩
      rw [hr hf, hc]; exact ⟨rfl, hb⟩
    have HR := Lib.hid (row_store _ hf.1)
    have HF := Lib.hid hf
    have HI := Lib.hid (idx_full hf c)
    have hi := (idx_full hf c).2.1
    unfold toldF
    rw [hc]
    clear hc hf
    go_enter Try.func11, Try.ntmps11
    go_wp2_with (first
      | (go_at_call 23; refine (HO.out _).mono ?_; rintro e w1 ⟨rfl, hb⟩)
      | (refine wpList_store_row rfl 41 (.tmp 7) (.tmp 13) rfl _ (bcells row.data.toList).toArray rfl rfl 41 (bcells zrow).toArray (heap_alloc_new _ _) HR.out.1 HR.out.2.1 HR.out.2.2 ?_)
      | (go_at_call 19; refine (to_any w1.heap.size row.data.toList c _ HF.out (setRow_heap _ _ _ _ _ _ (heap_alloc_new _ _))).mono ?_; rintro e w2 ⟨rfl, h1, h2⟩; have H1 := Lib.hid h1; have H2 := Lib.hid h2; clear h1 h2)
      | (refine wpList_conv_bytes rfl 37 9 5 (.tmp 20) rfl Try.underlying37 Try.underlying5 Try.underlying9 w1.heap.size 0 256 256 rfl (front row.data.toList (idx row.data.toList c)) (front_full HF.out hi).1 (fun j hj => by rw [Nat.zero_add]; exact row_of_bcells H1.out j hj) ?_))
    go_ret3
    refine ⟨?_, ?_⟩
    · have e : ((idx row.data.toList c : Nat) : Int) % 256 = (idx row.data.toList c : Int) := by omega
      rw [e]; rfl
    · exact ((hb.alloc hb.size _).trans (below_grown (grown_setRow _ _ _) hb.size (by simp; exact Nat.le_succ_of_le hb.size))).trans (below_grown H2.out hb.size (by simp; exact Nat.le_succ_of_le hb.size))
  · have HO : Hid (∀ w, Calls Try.prog 23 #[.string row] w fun e w' => ∃ r, e = .returned (.tuple #[.agg (bcells r).toArray, .int .i64 2]) ∧ r.length = 256 ∧ Below w.heap.size w w') := by
      intro w
      refine (open_any row w).mono ?_
      rintro e w' ⟨r, rfl, hl, hr, hb⟩
      rw [hc]; exact ⟨r, rfl, hl, hb⟩
    have HR := Lib.hid row_store
    unfold toldF
    rw [hc]
    clear hc hf
    go_enter Try.func11, Try.ntmps11
    go_wp2_with (first
      | (go_at_call 23; refine (HO.out _).mono ?_; rintro e w1 ⟨r, rfl, hl, hb⟩; have HL := Lib.hid hl; clear hl)
      | (refine wpList_store_row rfl 41 (.tmp 7) (.tmp 13) rfl _ (bcells r).toArray rfl rfl 41 (bcells zrow).toArray (heap_alloc_new _ _) (HR.out r HL.out).1 (HR.out r HL.out).2.1 (HR.out r HL.out).2.2 ?_))
    go_ret3
    exact ⟨rfl, (hb.alloc hb.size _).trans (below_grown (grown_setRow _ _ _) hb.size (by simp; exact Nat.le_succ_of_le hb.size))⟩

/-! ### lives -/
theorem full_allB : full allB := full_of_nodup allB_length nodup_allB
theorem l1 : told mv allB [98, 98] = (([98, 0], (mv allB [98, 98]).2), 0) := by decide +kernel
theorem l2 : told bk allB [98, 0] = (([98, 98], (mv allB [98, 98]).2), 0) := by decide +kernel
theorem l3 : toldF allB 3 = (front allB 3, 3, 0) := by decide +kernel
theorem l4 : told mv [120] [] = (([], []), 2) := by decide +kernel
theorem l5 : (front allB 3).length = 256 ∧ (front allB 3).take 5 = [3, 0, 1, 2, 4] := by decide +kernel
theorem l6 : chk allB = 0 := by decide +kernel

set_option maxRecDepth 100000 in
set_option maxHeartbeats 1000000 in
theorem lives_any (w : World) : Calls Try.prog 13 #[] w fun e w' => e = .returned (.bool true) ∧ Below w.heap.size w w' := by
  have H1 : Hid (∀ w, Calls Try.prog 16 #[] w fun e w' => e = .returned (.string ⟨allB.toArray⟩) ∧ Below w.heap.size w w') := fun w => fresh_any w
  have H2 : Hid (∀ w, Calls Try.prog 7 #[.string ⟨allB.toArray⟩, .string ⟨#[98, 98]⟩] w fun e w' => e = .returned (.tuple #[.string ⟨#[98, 0]⟩, .string ⟨(mv allB [98, 98]).2.toArray⟩, .int .i64 0]) ∧ Below w.heap.size w w') := fun w => by
    have := move_any ⟨allB.toArray⟩ ⟨#[98, 98]⟩ w
    rw [show (ByteArray.mk allB.toArray).data.toList = allB from rfl, show (ByteArray.mk #[98, 98]).data.toList = [98, 98] from rfl, l1] at this
    exact this
  have H3 : Hid (∀ w, Calls Try.prog 9 #[.string ⟨allB.toArray⟩, .string ⟨#[98, 0]⟩] w fun e w' => e = .returned (.tuple #[.string ⟨#[98, 98]⟩, .string ⟨(mv allB [98, 98]).2.toArray⟩, .int .i64 0]) ∧ Below w.heap.size w w') := fun w => by
    have := back_any ⟨allB.toArray⟩ ⟨#[98, 0]⟩ w
    rw [show (ByteArray.mk allB.toArray).data.toList = allB from rfl, show (ByteArray.mk #[98, 0]).data.toList = [98, 0] from rfl, l2] at this
    exact this
  have H4 : Hid (∀ w, Calls Try.prog 11 #[.string ⟨allB.toArray⟩, .int .u8 3] w fun e w' => e = .returned (.tuple #[.string ⟨(front allB 3).toArray⟩, .int .i64 3, .int .i64 0]) ∧ Below w.heap.size w w') := fun w => by
    have := mtfFront_any ⟨allB.toArray⟩ 3 w
    rw [show (ByteArray.mk allB.toArray).data.toList = allB from rfl, l3] at this
    exact this
  have H5 : Hid (∀ w, Calls Try.prog 7 #[.string ⟨#[120]⟩, .string ⟨#[]⟩] w fun e w' => e = .returned (.tuple #[.string ⟨#[]⟩, .string ⟨#[]⟩, .int .i64 2]) ∧ Below w.heap.size w w') := fun w => by
    have := move_any ⟨#[120]⟩ ⟨#[]⟩ w
    rw [show (ByteArray.mk #[120]).data.toList = [120] from rfl, show (ByteArray.mk #[]).data.toList = [] from rfl, l4] at this
    exact this
  have H6 : Hid (∀ w, Calls Try.prog 14 #[.string ⟨allB.toArray⟩] w fun e w' => e = .returned (.int .i64 0) ∧ Below w.heap.size w w') := fun w => by
    have := check_any ⟨allB.toArray⟩ w
    rw [show (ByteArray.mk allB.toArray).data.toList = allB from rfl, l6] at this
    exact this
  obtain ⟨f, hf, hfs⟩ : ∃ f : ByteArray, f = ⟨allB.toArray⟩ ∧ f.size = 256 := ⟨_, rfl, by rw [mk_size, allB_length]⟩
  obtain ⟨m, hm⟩ : ∃ m : ByteArray, m = ⟨(mv allB [98, 98]).2.toArray⟩ := ⟨_, rfl⟩
  obtain ⟨g, hg, hgs, hg5⟩ : ∃ g : ByteArray, g = ⟨(front allB 3).toArray⟩ ∧ g.size = 256 ∧ g.extract 0 5 = ⟨#[3, 0, 1, 2, 4]⟩ := by
    refine ⟨_, rfl, by rw [mk_size, l5.1], ba_ext ?_⟩
    rw [Lib.extract_data]
    exact l5.2
  rw [← hf] at H1 H2 H3 H4 H6
  rw [← hm] at H2 H3
  rw [← hg] at H4
  have hgs5 : (5 : Int) ≤ (g.size : Int) := by omega
  have e1 : ((f.size : Int) == 256) = true := by rw [hfs]; rfl
  have e2 : ((g.size : Int) == 256) = true := by rw [hgs]; rfl
  clear hf hm hg hfs hgs
  go_enter Try.func13, Try.ntmps13
  go_wp2_with (first
    | (go_at_call 16; refine (H1.out _).mono ?_; rintro e w1 ⟨rfl, hb1⟩; have tok := trivial)
    | (go_at_call 7; with_reducible refine (H2.out _).mono ?_; rintro e w2 ⟨rfl, hb2⟩)
    | (go_at_call 9; refine (H3.out _).mono ?_; rintro e w3 ⟨rfl, hb3⟩)
    | (go_at_call 11; refine (H4.out _).mono ?_; rintro e w4 ⟨rfl, hb4⟩)
    | (go_at_call 7; refine (H5.out _).mono ?_; rintro e w5 ⟨rfl, hb5⟩)
    | (go_at_call 14; refine (H6.out _).mono ?_; rintro e w6 ⟨rfl, hb6⟩))
  go_ret
  exact ⟨rfl, hb1.trans ((hb2.mono hb1.size).trans ((hb3.mono (by have := hb1.size; have := hb2.size; omega)).trans ((hb4.mono (by have := hb1.size; have := hb2.size; have := hb3.size; omega)).trans ((hb5.mono (by have := hb1.size; have := hb2.size; have := hb3.size; have := hb4.size; omega)).trans (hb6.mono (by have := hb1.size; have := hb2.size; have := hb3.size; have := hb4.size; have := hb5.size; omega))))))⟩
end Go.Proofs.Yteopmojpnebjfaa
