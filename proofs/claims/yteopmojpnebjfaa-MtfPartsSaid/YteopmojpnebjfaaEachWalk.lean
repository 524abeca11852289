/- mtf.each over a right row and a text that may be, for a step that meets StepOf. -/
import Derived.Test.YteopmojpnebjfaaRefFresh
import Derived.Deep.RegionWith
import Derived.Shelf.Abstract
namespace Go.Proofs.Yteopmojpnebjfaa
open Go.RowKit MtfPlain

/-- what a method of the row does: what it hands back, and the row behind it -/
structure StepOf (F : FuncId) (out : List UInt8 → UInt8 → UInt8) (nxt : List UInt8 → UInt8 → List UInt8) : Prop where
  enters : ∀ args w, (callFunc F args).run Try.prog w = .ok (.enter F args) w
  keeps : ∀ r c, full r → full (nxt r c)
  does : ∀ b r (c : UInt8) w, full r → w.heap[b]? = some (.cells (bcells r).toArray 41 (0, 0)) →
    Calls Try.prog F #[.pointer (some ⟨b, 0, none⟩), .int .u8 c.toNat] w fun e w' => e = .returned (.int .u8 (out r c).toNat) ∧
      w'.heap[b]? = some (.cells (bcells (nxt r c)).toArray 41 (0, 0)) ∧ w.grownBy w' (some b)

def stF (out : List UInt8 → UInt8 → UInt8) (nxt : List UInt8 → UInt8 → List UInt8) (st : List UInt8 × List UInt8) (c : UInt8) : List UInt8 × List UInt8 := (st.1 ++ [out st.2 c], nxt st.2 c)
def runF (out : List UInt8 → UInt8 → UInt8) (nxt : List UInt8 → UInt8 → List UInt8) (r s : List UInt8) : List UInt8 × List UInt8 := s.foldl (stF out nxt) ([], r)

theorem builder_kept {T e : TypeId} {B b c : Nat} {bs : List Value} {w w2 : World} (h : Lib.IsBuilderF T e B b bs w) (hg : w.grownBy w2 (some c)) (hc : c < B) : Lib.IsBuilderF T e B b bs w2 := by
  have key : ∀ p, Lib.BuilderAtF T e B b p bs w → Lib.BuilderAtF T e B b p bs w2 := by
    rintro p ⟨hB, v, hb, hown, hne⟩
    have hlt : b < w.heap.size := (Array.getElem?_eq_some_iff.1 hb).1
    refine ⟨hB, v, (hg.block b hlt (by intro e; injection e with e; omega)).trans hb, hown.kept hg ?_, hne⟩
    right
    intro e
    have := (hown.lt c e).1
    omega
  rcases h with h | h
  · exact .inl (key _ h)
  · exact .inr (key _ h)

theorem runF_snoc (out : List UInt8 → UInt8 → UInt8) (nxt : List UInt8 → UInt8 → List UInt8) (r s : List UInt8) (c : UInt8) : runF out nxt r (s ++ [c]) = stF out nxt (runF out nxt r s) c := by simp [runF]
theorem runF_full {F : FuncId} {out : List UInt8 → UInt8 → UInt8} {nxt : List UInt8 → UInt8 → List UInt8} (h : StepOf F out nxt) {r : List UInt8} (hr : full r) (s : List UInt8) : full (runF out nxt r s).2 := by
  induction s using snoc_ind with
  | h0 => exact hr
  | h1 l a ih => rw [runF_snoc]; exact h.keeps _ _ ih
theorem runF_length (out : List UInt8 → UInt8 → UInt8) (nxt : List UInt8 → UInt8 → List UInt8) (r s : List UInt8) : (runF out nxt r s).1.length = s.length := by
  induction s using snoc_ind with
  | h0 => rfl
  | h1 l a ih => rw [runF_snoc]; simp [stF, ih]

set_option maxRecDepth 100000 in
set_option maxHeartbeats 1000000 in
theorem each_any (F : FuncId) (out : List UInt8 → UInt8 → UInt8) (nxt : List UInt8 → UInt8 → List UInt8) (hF : StepOf F out nxt) (row s : ByteArray) (w : World) (hs : s.size ≤ 65536) (hf : full row.data.toList) :
    Calls Try.prog 18 #[.string row, .string s, .func (.func F) #[] #[]] w fun e w' => e = .returned (.tuple #[.string ⟨(runF out nxt row.data.toList s.data.toList).1.toArray⟩, .string ⟨(runF out nxt row.data.toList s.data.toList).2.toArray⟩, .int .i64 0]) ∧ Below w.heap.size w w' := by
  have hz := zero41
  have HF := Lib.hid hF
  have hen := hF.enters
  clear hF
  have HO : Hid (∀ w, Calls Try.prog 23 #[.string row] w fun e w' => e = .returned (.tuple #[.agg (bcells row.data.toList).toArray, .int .i64 0]) ∧ Below w.heap.size w w') := by
    intro w
    refine (open_any row w).mono ?_
    rintro e w' ⟨r, rfl, _, hr, hb⟩
    rcases chk_cases row.data.toList with h | h
    · rw [hr hf, h.1]; exact ⟨rfl, hb⟩
    · exact absurd hf h.2
  have HFull := Lib.hid hf
  have hbl : (bcells row.data.toList).length = 256 := by rw [bcells_length]; exact hf.1
  have HSr := Lib.hid (show (Try.prog.info? 41).map (·.size) = some (bcells row.data.toList).toArray.size by rw [size41]; simp [hbl])
  have HSz := Lib.hid (show (bcells zrow).toArray.size = (bcells row.data.toList).toArray.size by rw [List.size_toArray, List.size_toArray, hbl, bcells_length]; rfl)
  have HA := Lib.hid (show (bcells row.data.toList).toArray.all (·.oneCell') = true by rw [Array.all_eq_true_iff_forall_mem]; intro v hv; exact bcells_one _ v (by simpa using hv))
  clear hbl hf
  have hgt : ¬ ((65536 : Int) < (s.size : Int)) := by omega
  go_enter Try.func18, Try.ntmps18
  go_wp2_with (first
    | (go_at_call 23; refine (HO.out _).mono ?_; rintro e w1 ⟨rfl, hb⟩)
    | (refine wpList_store_row rfl 41 (.tmp 9) (.tmp 16) rfl _ (bcells row.data.toList).toArray rfl rfl 41 (bcells zrow).toArray (heap_alloc_new _ _) HSr.out HSz.out HA.out ?_))
  obtain ⟨B, hB⟩ : ∃ B, B = w1.heap.size := ⟨_, rfl⟩
  have hwB : w.heap.size ≤ B := by rw [hB]; exact hb.size
  rw [← hB]
  generalize hW : ((w1.alloc (Obj.cells (bcells zrow).toArray 41)).setRow B (bcells row.data.toList).toArray).alloc (Obj.cells #[Value.pointer none, Value.slice none 0 0] 48) = W
  have hbW : Hid (Below w.heap.size w W) := by
    rw [← hW, hB]
    exact ((hb.alloc hb.size _).trans (below_grown (grown_setRow _ _ _) hb.size (by simp; exact Nat.le_succ_of_le hb.size))).alloc (by simp; exact Nat.le_succ_of_le hb.size) _
  have hsW : B + 2 ≤ W.heap.size := by rw [← hW, hB]; simp
  have hrW : Hid (W.heap[B]? = some (.cells (bcells row.data.toList).toArray 41 (0, 0))) := by
    show _ = _
    rw [← hW, hB]
    exact (Below.heap_alloc _ _ _ (by simp)).trans (setRow_heap _ _ _ _ _ _ (heap_alloc_new _ _))
  have hiW : Hid (Lib.IsBuilderF 48 5 (B + 1) (B + 1) (bcells []) W) := by
    refine .inl ⟨Nat.le_refl _, .slice none 0 0, ?_, World.ownsRowF_of (World.ownsRow_nil _ _ _ _), by simp [Value.ownBlock]⟩
    rw [← hW, hB]
    have := heap_alloc_new ((w1.alloc (Obj.cells (bcells zrow).toArray 41)).setRow w1.heap.size (bcells row.data.toList).toArray) (Obj.cells #[Value.pointer none, Value.slice none 0 0] 48)
    simpa using this
  clear hW hb hB hz
  go_loopw [28] (fun i wr => ∃ k : Nat, k ≤ s.size ∧ i = .int .i64 k ∧ Hid (wr.heap[B]? = some (.cells (bcells (runF out nxt row.data.toList (s.data.toList.take k)).2).toArray 41 (0, 0))) ∧ Hid (Lib.IsBuilderF 48 5 (B + 1) (B + 1) (bcells (runF out nxt row.data.toList (s.data.toList.take k)).1) wr) ∧ Hid (Below w.heap.size w wr) ∧ B + 2 ≤ wr.heap.size) (fun i _ => s.size - (intOf i).toNat)
  case atStart => exact ⟨0, by omega, rfl, hrW, hiW, hbW, hsW⟩
  case round =>
    clear hrW hiW hbW hsW
    obtain ⟨k, hk, rfl, hr, hi, hb, hsz⟩ := hrel
    by_cases hlt : k < s.size
    · have hfr := runF_full HF.out HFull.out (s.data.toList.take k)
      have hln := runF_length out nxt row.data.toList (s.data.toList.take k)
      have hnx : runF out nxt row.data.toList (s.data.toList.take (k + 1)) = stF out nxt (runF out nxt row.data.toList (s.data.toList.take k)) s[k] := by
        rw [List.take_add_one, data_at _ _ hlt]; exact runF_snoc _ _ _ _ _
      have hlk : (s.data.toList.take k).length ≤ k := List.length_take_le _ _
      rw [← hln] at hlk
      clear hln
      obtain ⟨o, r, hor⟩ : ∃ o r, runF out nxt row.data.toList (s.data.toList.take k) = (o, r) := ⟨_, _, rfl⟩
      rw [hor] at hr hi hfr hnx hlk
      clear hor
      have HN := Lib.hid hnx
      have hstep := HF.out.does B r s[k] wr hfr hr.out
      have HS := Lib.hid hstep
      have hlo : (bcells o).length + 1 ≤ 140737488355328 := by rw [bcells_length]; have : o.length ≤ k := hlk; omega
      have HLo := Lib.hid hlo
      clear hstep hnx hfr hlo hlk hr
      go_wp2_with (first
        | (refine HS.out.mono ?_; rintro e w2 ⟨rfl, h1, h2⟩; have H1 := Lib.hid h1; have H2 := Lib.hid h2; have HI2 := Lib.hid (builder_kept hi.out h2 (Nat.lt_succ_self B)); have HZ2 := Lib.hid (Nat.le_trans (Nat.le_of_succ_le hsz) h2.size); clear h1 h2)
        | (go_at_call 25; refine (BW.WriteByte (B + 1) (B + 1) _ _ _ HI2.out HLo.out HZ2.out).mono ?_; rintro e w3 ⟨rfl, h3, h4, h5⟩))
      go_roundw
      case rel =>
        refine ⟨k + 1, by omega, by go_num, ?_, ?_, ?_, ?_⟩
        · show _ = _
          rw [HN.out]
          exact (h4.block B (Nat.lt_succ_self B)).trans H1.out
        · show Lib.IsBuilderF _ _ _ _ _ _
          rw [HN.out]
          have : bcells (stF out nxt (o, r) s[k]).1 = bcells o ++ [Value.int .u8 (out r s[k]).toNat] := by simp [stF, bcells]
          rw [this]
          exact .inr h3
        · exact ((show Below w.heap.size w wr from hb.out).trans (below_grown H2.out hwB hb.out.size)).trans (h4.mono (by omega))
        · have := h4.size; have := H2.out.size; omega
      case measure => simp [intOf]; omega
    · have hk' : s.data.toList.take k = s.data.toList := List.take_of_length_le (by rw [size_data]; omega)
      rw [hk'] at hr hi
      have hfr := runF_full HF.out HFull.out s.data.toList
      obtain ⟨o, r, hor⟩ : ∃ o r, runF out nxt row.data.toList s.data.toList = (o, r) := ⟨_, _, rfl⟩
      rw [hor] at hr hi hfr
      have HOr := Lib.hid hor
      have hcv : ∀ W : World, W.heap[B]? = some (.cells (bcells r).toArray 41 (0, 0)) → Sem.run Try.prog (convert 37 9 (.slice (some ⟨B, 0, none⟩) 256 256)) W = .ok (.string ⟨r.toArray⟩) W := by
        intro W hW
        have := run_convert_bytes_back (P := Try.prog) W 37 9 5 ⟨B, 0, none⟩ 256 r Try.underlying37 Try.underlying5 Try.underlying9 (fun j hj => by rw [add_plain, Nat.zero_add]; exact row_of_bcells hW j hj)
        rwa [hfr.1] at this
      clear hfr hk' hor hen
      go_wp2_with fail
      have hrr : wr.heap[B]? = some (.cells (bcells r).toArray 41 (0, 0)) := hr.out
      have hrd : wr.drew.heap[B]? = some (.cells (bcells r).toArray 41 (0, 0)) := hr.out
      have HSt : Hid (Calls Try.prog 26 #[.pointer (some ⟨B + 1, 0, none⟩)] wr.drew fun e w' => e = .returned (.string ⟨o.toArray⟩) ∧ w'.heap[B]? = some (.cells (bcells r).toArray 41 (0, 0)) ∧ Hid (Below w.heap.size w w')) := by
        refine (Try.Builder_String_any_k (B + 1) (B + 1) o wr.drew (show Lib.IsBuilderF 48 5 (B + 1) (B + 1) (Lib.byteCells o) wr.drew from hi.out) (show B + 1 ≤ wr.heap.size by omega)).mono ?_
        rintro e w1 ⟨rfl, h1, h2, h3⟩
        exact ⟨rfl, (h2.block B (Nat.lt_succ_self B)).trans hr.out, (show Below w.heap.size w wr.drew from (show Below w.heap.size w wr from hb.out).drew).trans (h2.mono (by omega))⟩
      go_region_with (go_at_call 26; refine HSt.out.mono ?_; rintro e w1 ⟨rfl, hr1, hb1⟩)
      all_goals (clear hcv hrr hrd hr1; go_wp2)
      all_goals go_ret3
      all_goals (rw [HOr.out]; exact ⟨rfl, hb1⟩)
end Go.Proofs.Yteopmojpnebjfaa
