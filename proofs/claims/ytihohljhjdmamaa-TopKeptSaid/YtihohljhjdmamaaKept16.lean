/- Records. -/
import Derived.Test.YtihohljhjdmamaaKept15
namespace Go.Proofs.Ytihohljhjdmamaa
open Go.RowKit
set_option linter.unusedVariables false

theorem u8Info : ElemOf Try.prog 36 5 (.int .u8 0) 1 := ⟨Try.underlying36, by kernel_rfl, rfl⟩
/-- a record's numbers -/
def okR (l : List Nat) : Bool := decide (1 ≤ l.length) && decide (l.length ≤ 8) && !bad l
def rcB (l : List Nat) : ByteArray := ⟨(l.flatMap b5).toArray⟩
theorem rcB_size (l : List Nat) : (rcB l).size = 5 * l.length := by
  show (l.flatMap b5).toArray.size = _
  rw [List.size_toArray]
  induction l with
  | nil => rfl
  | cons x l ih => rw [List.flatMap_cons, List.length_append, ih]; simp [b5]; omega
theorem fm_snoc (l : List Nat) (i : Nat) (h : i < l.length) : (l.take (i + 1)).flatMap b5 = (l.take i).flatMap b5 ++ b5 l[i] := by
  rw [List.take_succ_eq_append_getElem h, List.flatMap_append]; simp
theorem fm_len (l : List Nat) : (l.flatMap b5).length = 5 * l.length := by
  have := rcB_size l
  show _ = _
  rw [← this]; show _ = (l.flatMap b5).toArray.size; simp
set_option maxRecDepth 100000 in
set_option maxHeartbeats 1000000 in
theorem record_bad (v : Value) (l : List Nat) (hl : ∀ x ∈ l, x < 18446744073709551616) (hbad : okR l = false) (w : World) (hv : NumsAt w v l) :
    Calls Try.prog 5 #[v] w fun e w' => e = .returned (.tuple #[.string ⟨#[]⟩, .int .i64 1]) ∧ w' = w := by
  have HC := Lib.hid (contains_u64 v l hl w hv)
  obtain ⟨a, cap, rfl, hm, _⟩ := hv
  unfold maxLen at hm
  by_cases h1 : l.length < 1
  · have h1i : (l.length : Int) < 1 := by omega
    clear hbad hl
    go_enter Try.func5, Try.ntmps5
    go_wp2_with fail
    go_ret2
    exact ⟨rfl, rfl⟩
  · by_cases h2 : 8 < l.length
    · have h1i : 1 ≤ (l.length : Int) := by omega
      have h2i : 8 < (l.length : Int) := by omega
      clear hbad hl
      go_enter Try.func5, Try.ntmps5
      go_wp2_with fail
      go_ret2
      exact ⟨rfl, rfl⟩
    · have hb : bad l = true := by
        unfold okR at hbad
        rw [show decide (1 ≤ l.length) = true by simp; omega, show decide (l.length ≤ 8) = true by simp; omega] at hbad
        simpa using hbad
      rw [hb] at HC
      have h1i : 1 ≤ (l.length : Int) := by omega
      have h2i : (l.length : Int) ≤ 8 := by omega
      clear hbad hl hb
      go_enter Try.func5, Try.ntmps5
      go_wp2_with fail
      refine HC.out.mono ?_
      rintro e w1 ⟨rfl, hw1⟩
      obtain rfl : w = w1 := hw1.symm
      simp only []
      go_wp2_with fail
      go_ret2
      exact ⟨rfl, rfl⟩
set_option maxRecDepth 100000 in
set_option maxHeartbeats 2000000 in
theorem record_ok (v : Value) (l : List Nat) (hl : ∀ x ∈ l, x < 18446744073709551616) (hok : okR l = true) (w : World) (hv : NumsAt w v l) :
    Calls Try.prog 5 #[v] w fun e w' => e = .returned (.tuple #[.string (rcB l), .int .i64 0]) ∧ Hid (w.grownBy w' none) := by
  have HC := contains_u64 v l hl w hv
  obtain ⟨a, cap, rfl, hm, hc⟩ := hv
  have hok' : 1 ≤ l.length ∧ l.length ≤ 8 ∧ bad l = false := by
    unfold okR at hok
    simp at hok
    exact ⟨hok.1.1, hok.1.2, hok.2⟩
  obtain ⟨h1, h2, hb⟩ := hok'
  rw [hb] at HC
  have HC' := Lib.hid HC
  obtain ⟨n, hn⟩ : ∃ n, n = l.length := ⟨_, rfl⟩
  have HCe : Hid (∀ W, w.grownBy W none → ∀ i, i < n → ∃ (x : Addr) (y : Nat), a = some x ∧ W.cell? (x.add i) = some (.int .u64 (y : Nat)) ∧ y < 18446744073709551616 ∧ (l.take (i + 1)).flatMap b5 = (l.take i).flatMap b5 ++ b5 y) := fun W hW i hi => by
    obtain ⟨x, e1, e2⟩ := hc i (by omega)
    exact ⟨x, _, e1, hW.cell e2 (by simp), hl _ (List.getElem_mem _), fm_snoc l i (by omega)⟩
  have HLn : Hid (∀ i, i ≤ n → (bcells ((l.take i).flatMap b5)).length = 5 * i) := fun i hi => by
    rw [bcells_length, fm_len, List.length_take]; omega
  have HR : Hid (rcB l = ⟨((l.take n).flatMap b5).toArray⟩) := by show _ = _; rw [hn, List.take_length]; rfl
  rw [← hn] at h1 h2 HC' ⊢
  have h1i : 1 ≤ (n : Int) := by omega
  have h2i : (n : Int) ≤ 8 := by omega
  obtain ⟨i0, hi0, hz0, hz1, hz2⟩ := info_parts u8Info.info
  clear hok hb HC hc hm hn hl
  go_enter Try.func5, Try.ntmps5
  go_wp2_with fail
  refine HC'.out.mono ?_
  rintro e w1 ⟨rfl, hw1⟩
  obtain rfl : w = w1 := hw1.symm
  simp only []
  go_wp2_with (first
    | (at_make; refine wpList_make_own w rfl _ _ 36 rfl w.heap.size 5 i0 _ 1 Try.underlying36 hi0 hz0 hz1 .i64 .i64 _ (5 * n) rfl rfl (by omega) (by rw [hz2]; omega) (by unfold maxLen; omega) (Nat.le_refl _) ?_; intro w1 hown1 hgrow1)
    | fail)
  have HO1 : Hid (Owns w1 w.heap.size 5 (.slice (some ⟨w.heap.size, 0, none⟩) 0 (5 * n)) (bcells ((l.take 0).flatMap b5))) := hown1
  have HG1 := Lib.hid hgrow1
  clear hown1 hgrow1
  trace_state
  go_loopw [4, 26] (fun ov iv wr => ∃ i : Nat, iv = .int .i64 (i : Nat) ∧ i ≤ n ∧ Hid (Owns wr w.heap.size 5 ov (bcells ((l.take i).flatMap b5))) ∧ Hid (w.grownBy wr none)) (fun _ iv _ => n - (intOf iv).toNat)
  case atStart => exact ⟨0, rfl, Nat.zero_le _, HO1, HG1⟩
  case round =>
    clear HO1 HG1
    obtain ⟨i, rfl, hi, ho, hg⟩ := hrel
    by_cases hlt : i < n
    · obtain ⟨x, y, rfl, cx, hy, hst⟩ := HCe.out wr hg.out i hlt
      have H5 := Lib.hid (fun w => five_any y hy w)
      have HSt := Lib.hid hst
      have hL := HLn.out i hi
      have Hbs : Hid (bcells (b5 y) = [.int .u8 ((y : Int) / 4294967296 % 256), .int .u8 ((y : Int) / 16777216 % 256), .int .u8 ((y : Int) / 65536 % 256), .int .u8 ((y : Int) / 256 % 256), .int .u8 ((y : Int) % 256)]) := b5_cells y
      obtain ⟨x0, hx0⟩ : ∃ x0, x0 = (y : Int) / 4294967296 % 256 := ⟨_, rfl⟩
      obtain ⟨x1, hx1⟩ : ∃ x1, x1 = (y : Int) / 16777216 % 256 := ⟨_, rfl⟩
      obtain ⟨x2, hx2⟩ : ∃ x2, x2 = (y : Int) / 65536 % 256 := ⟨_, rfl⟩
      obtain ⟨x3, hx3⟩ : ∃ x3, x3 = (y : Int) / 256 % 256 := ⟨_, rfl⟩
      obtain ⟨x4, hx4⟩ : ∃ x4, x4 = (y : Int) % 256 := ⟨_, rfl⟩
      rw [← hx0, ← hx1, ← hx2, ← hx3, ← hx4] at H5 Hbs
      have hii : (i : Int) < (n : Int) := by omega
      have HL := Lib.hid hL
      clear hst hy hx0 hx1 hx2 hx3 hx4 hL
      go_wp2_with fail
      refine (H5.out _).mono ?_
      rintro e w2 ⟨rfl, hg2⟩
      simp only []
      have q2 := heap_alloc_new w2 (.cells #[.int .u8 x0, .int .u8 x1, .int .u8 x2, .int .u8 x3, .int .u8 x4] 56)
      have g2 := World.grownBy_alloc w2 (.cells #[.int .u8 x0, .int .u8 x1, .int .u8 x2, .int .u8 x3, .int .u8 x4] 56) none
      have hoA := Lib.hid (ho.out.kept_of (grown_trans hg2.out g2) (by cases ov2 : Value.ownBlock _ with | none => exact .inr rfl | some k => exact .inl (by simp)))
      have hgA := Lib.hid (grown_trans hg.out (grown_trans hg2.out g2))
      have hbA := Lib.hid hgA.out.size
      have HSrc : Hid (Src (w2.alloc (.cells #[.int .u8 x0, .int .u8 x1, .int .u8 x2, .int .u8 x3, .int .u8 x4] 56)) (.slice (some ⟨w2.heap.size, 0, none⟩) 5 5) (bcells (b5 y))) := by
        show Src _ _ _
        rw [Hbs.out]
        refine .inr ⟨_, 5, rfl, fun j u hj => ?_⟩
        rw [add_plain, Nat.zero_add]
        exact row_cell q2 j u (by simpa using hj)
      have hb1 : Hid (((bcells ((l.take i).flatMap b5)).length + (bcells (b5 y)).length) * 1 ≤ 140737488355328) := by show _ ≤ _; rw [HL.out, bcells_length]; simp [b5]; omega
      have hb2 : Hid ((bcells ((l.take i).flatMap b5)).length + (bcells (b5 y)).length ≤ maxLen) := by show _ ≤ _; rw [HL.out, bcells_length]; simp [b5, maxLen]; omega
      clear q2 g2 hg2
      go_wp2_with (first
        | (at_builtin; refine wpList_add rfl (.tmp 32) (.tmp 33) 36 rfl w.heap.size 5 (.int .u8 0) 1 u8Info _ _ rfl hoA.out _ (bcells (b5 y)) rfl HSrc.out (bcells_one _) hb1.out hb2.out hbA.out ?_; intro v3 w3 ho3 hg3; have HO3 := Lib.hid ho3; have HG3 := Lib.hid hg3; clear ho3 hg3)
        | fail)
      refine ⟨⟨i + 1, by rw [Int.natCast_add]; rfl, by omega, ?_, grown_bel ((bel_grown hgA.out (Nat.le_refl _)).trans (HG3.out.below hoA.out hbA.out)) none⟩, by simp [intOf] <;> omega⟩
      show Owns _ _ _ _ _
      rw [HSt.out, bcells_append]
      exact HO3.out
    · obtain rfl : i = n := by omega
      go_wp2_with (first
        | ((with_reducible show wpList _ _ _ _ _ _); refine wpList_conv_owned rfl 36 9 5 (.tmp 36) rfl Try.underlying36 Try.underlying5 Try.underlying9 w.heap.size _ _ rfl ho.out ?_)
        | fail)
      go_ret2
      exact ⟨by rw [HR.out]; rfl, hg⟩
end Go.Proofs.Ytihohljhjdmamaa
