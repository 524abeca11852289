/- mtf.Move and mtf.Back return what the plain law tells, for every input. -/
import Derived.Test.YteopmojpnebjfaaEachWalk
namespace Go.Proofs.Yteopmojpnebjfaa
open Go.RowKit MtfPlain

/-- two texts and a number -/
def T3 (x : (List UInt8 × List UInt8) × Int) : Value := .tuple #[.string ⟨x.1.1.toArray⟩, .string ⟨x.1.2.toArray⟩, .int .i64 x.2]
/-- what Move, or Back, tells -/
def told (f : List UInt8 → List UInt8 → List UInt8 × List UInt8) (row s : List UInt8) : (List UInt8 × List UInt8) × Int :=
  if chk row ≠ 0 then (([], []), 2) else if s.length > 65536 then (([], []), 1) else (f row s, 0)

theorem told_bad (f : List UInt8 → List UInt8 → List UInt8 × List UInt8) {row s : List UInt8} (h : chk row = 2) : told f row s = (([], []), 2) := by simp [told, h]
theorem told_long (f : List UInt8 → List UInt8 → List UInt8 × List UInt8) {row s : List UInt8} (h : chk row = 0) (hs : s.length > 65536) : told f row s = (([], []), 1) := by
  unfold told; rw [h, if_neg (by simp), if_pos hs]
theorem told_ok (f : List UInt8 → List UInt8 → List UInt8 × List UInt8) {row s : List UInt8} (h : chk row = 0) (hs : s.length ≤ 65536) : told f row s = (f row s, 0) := by
  unfold told; rw [h, if_neg (by simp), if_neg (by omega)]

set_option maxRecDepth 100000 in
set_option maxHeartbeats 1000000 in
theorem each_all (F : FuncId) (out : List UInt8 → UInt8 → UInt8) (nxt : List UInt8 → UInt8 → List UInt8) (hF : StepOf F out nxt) (row s : ByteArray) (w : World) :
    Calls Try.prog 18 #[.string row, .string s, .func (.func F) #[] #[]] w fun e w' => e = .returned (T3 (told (runF out nxt) row.data.toList s.data.toList)) ∧ Below w.heap.size w w' := by
  by_cases hgood : chk row.data.toList = 0 ∧ s.size ≤ 65536
  · rw [told_ok _ hgood.1 (by rw [size_data]; exact hgood.2)]
    refine each_any F out nxt hF row s w hgood.2 ?_
    rcases chk_cases row.data.toList with h | h
    · exact h.2
    · have := h.1; omega
  · have hz := zero41
    clear hF
    have HSf : ∀ r : List UInt8, r.length = 256 → Hid ((Try.prog.info? 41).map (·.size) = some (bcells r).toArray.size) := fun r hr => show _ = _ by rw [size41]; simp [bcells_length, hr]
    have HSz : ∀ r : List UInt8, r.length = 256 → Hid ((bcells zrow).toArray.size = (bcells r).toArray.size) := fun r hr => show _ = _ by rw [List.size_toArray, List.size_toArray, bcells_length, bcells_length, hr]; rfl
    have HAf : ∀ r : List UInt8, Hid ((bcells r).toArray.all (·.oneCell') = true) := fun r => show _ = _ by rw [Array.all_eq_true_iff_forall_mem]; intro v hv; exact bcells_one _ v (by simpa using hv)
    have Hsf := Lib.hid HSf
    have Hsz := Lib.hid HSz
    have Haf := Lib.hid HAf
    clear HSf HSz HAf
    rcases chk_cases row.data.toList with ⟨hc, hf⟩ | ⟨hc, hf⟩
    · have hlong : s.data.toList.length > 65536 := by rw [size_data]; omega
      have hgt : (65536 : Int) < (s.size : Int) := by rw [size_data] at hlong; omega
      have HO : Hid (∀ w, Calls Try.prog 23 #[.string row] w fun e w' => ∃ r, e = .returned (.tuple #[.agg (bcells r).toArray, .int .i64 0]) ∧ r.length = 256 ∧ Below w.heap.size w w') := by
        intro w
        refine (open_any row w).mono ?_
        rintro e w' ⟨r, rfl, hl, hr, hb⟩
        rw [hc]; exact ⟨r, rfl, hl, hb⟩
      rw [told_long _ hc hlong]
      clear hgood hc hf hlong
      go_enter Try.func18, Try.ntmps18
      go_wp2_with (first
        | (go_at_call 23; refine (HO.out _).mono ?_; rintro e w1 ⟨r, rfl, hl, hb⟩; have HL := Lib.hid hl; clear hl)
        | (refine wpList_store_row rfl 41 (.tmp 9) (.tmp 16) rfl _ (bcells r).toArray rfl rfl 41 (bcells zrow).toArray (heap_alloc_new _ _) (Hsf.out r HL.out).out (Hsz.out r HL.out).out (Haf.out r).out ?_))
      go_ret3
      exact ⟨rfl, (hb.alloc hb.size _).trans (below_grown (grown_setRow _ _ _) hb.size (by simp; exact Nat.le_succ_of_le hb.size))⟩
    · have HO : Hid (∀ w, Calls Try.prog 23 #[.string row] w fun e w' => ∃ r, e = .returned (.tuple #[.agg (bcells r).toArray, .int .i64 2]) ∧ r.length = 256 ∧ Below w.heap.size w w') := by
        intro w
        refine (open_any row w).mono ?_
        rintro e w' ⟨r, rfl, hl, hr, hb⟩
        rw [hc]; exact ⟨r, rfl, hl, hb⟩
      rw [told_bad _ hc]
      clear hgood hc hf
      go_enter Try.func18, Try.ntmps18
      go_wp2_with (first
        | (go_at_call 23; refine (HO.out _).mono ?_; rintro e w1 ⟨r, rfl, hl, hb⟩; have HL := Lib.hid hl; clear hl)
        | (refine wpList_store_row rfl 41 (.tmp 9) (.tmp 16) rfl _ (bcells r).toArray rfl rfl 41 (bcells zrow).toArray (heap_alloc_new _ _) (Hsf.out r HL.out).out (Hsz.out r HL.out).out (Haf.out r).out ?_))
      go_ret3
      exact ⟨rfl, (hb.alloc hb.size _).trans (below_grown (grown_setRow _ _ _) hb.size (by simp; exact Nat.le_succ_of_le hb.size))⟩

theorem stepTo : StepOf 19 (fun r c => UInt8.ofNat (idx r c)) (fun r c => front r (idx r c)) :=
  ⟨enters_of Try.func19 (by kernel_rfl) rfl, fun _ c h => front_full h (idx_full h c).2.1, fun b r c w hf hb => to_any b r c w hf hb⟩
theorem stepFrom : StepOf 22 (fun r d => r.getD d.toNat 0) (fun r d => front r d.toNat) :=
  ⟨enters_of Try.func22 (by kernel_rfl) rfl, fun _ d h => front_full h d.toNat_lt, fun b r d w hf hb => from_any b r d w hf hb⟩
theorem runF_mv : runF (fun r c => UInt8.ofNat (idx r c)) (fun r c => front r (idx r c)) = mv := rfl
theorem runF_bk : runF (fun r d => r.getD d.toNat 0) (fun r d => front r d.toNat) = bk := rfl

set_option maxRecDepth 100000 in
set_option maxHeartbeats 400000 in
theorem move_any (row s : ByteArray) (w : World) :
    Calls Try.prog 7 #[.string row, .string s] w fun e w' => e = .returned (T3 (told mv row.data.toList s.data.toList)) ∧ Below w.heap.size w w' := by
  have HE := Lib.hid (each_all 19 _ _ stepTo row s w)
  rw [runF_mv] at HE
  generalize told mv row.data.toList s.data.toList = x at *
  obtain ⟨⟨a, b⟩, c⟩ := x
  unfold T3 at *
  go_enter Try.func7, Try.ntmps7
  go_wp2_with (go_at_call 18; refine HE.out.mono ?_; rintro e w1 ⟨rfl, hb⟩)
  go_ret3
  exact ⟨rfl, hb⟩
set_option maxRecDepth 100000 in
set_option maxHeartbeats 400000 in
theorem back_any (row s : ByteArray) (w : World) :
    Calls Try.prog 9 #[.string row, .string s] w fun e w' => e = .returned (T3 (told bk row.data.toList s.data.toList)) ∧ Below w.heap.size w w' := by
  have HE := Lib.hid (each_all 22 _ _ stepFrom row s w)
  rw [runF_bk] at HE
  generalize told bk row.data.toList s.data.toList = x at *
  obtain ⟨⟨a, b⟩, c⟩ := x
  unfold T3 at *
  go_enter Try.func9, Try.ntmps9
  go_wp2_with (go_at_call 18; refine HE.out.mono ?_; rintro e w1 ⟨rfl, hb⟩)
  go_ret3
  exact ⟨rfl, hb⟩
end Go.Proofs.Yteopmojpnebjfaa
