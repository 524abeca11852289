/- Numbers as bytes. -/
import Derived.Test.YtihohljhjdmamaaKept4
import Derived.Test.YtihohljhjdmamaaNums
import Derived.Handy
import Derived.Deep.Cut
namespace Go.Proofs.Ytihohljhjdmamaa
open Go.RowKit
set_option linter.unusedVariables false

/-- the five bytes of a number -/
def b5 (n : Nat) : List UInt8 := [UInt8.ofNat (n / 4294967296), UInt8.ofNat (n / 16777216), UInt8.ofNat (n / 65536), UInt8.ofNat (n / 256), UInt8.ofNat n]
theorem b5_cells (n : Nat) : bcells (b5 n) = [.int .u8 ((n : Int) / 4294967296 % 256), .int .u8 ((n : Int) / 16777216 % 256), .int .u8 ((n : Int) / 65536 % 256), .int .u8 ((n : Int) / 256 % 256), .int .u8 ((n : Int) % 256)] := by
  simp [bcells, b5]
theorem arr5_size : (Try.prog.info? 56).map (·.size) = some 5 := by kernel_rfl
set_option maxRecDepth 100000 in
set_option maxHeartbeats 1000000 in
theorem five_any (n : Nat) (hn : n < 18446744073709551616) (w : World) : Calls Try.prog 18 #[.int .u64 (n : Nat)] w fun e w' => e = .returned (.agg #[.int .u8 ((n : Int) / 4294967296 % 256), .int .u8 ((n : Int) / 16777216 % 256), .int .u8 ((n : Int) / 65536 % 256), .int .u8 ((n : Int) / 256 % 256), .int .u8 ((n : Int) % 256)]) ∧ Hid (w.grownBy w' none) := by
  have HS := Lib.hid arr5_size
  have q0 := heap_alloc_new w (.cells #[.int .u8 0, .int .u8 0, .int .u8 0, .int .u8 0, .int .u8 0] 56)
  have g0 := World.grownBy_alloc w (.cells #[.int .u8 0, .int .u8 0, .int .u8 0, .int .u8 0, .int .u8 0] 56) none
  go_enter Try.func18, Try.ntmps18
  go_upto_region 1 with (fail)
  generalize w.alloc (.cells #[.int .u8 0, .int .u8 0, .int .u8 0, .int .u8 0, .int .u8 0] 56) = W0 at *
  obtain ⟨⟨t0, t1, t2, t3, t4⟩, f0, f1, f2, f3, f4⟩ := row5 q0
  have fq := Lib.hid (row_put5 (.int .u8 ((n : Int) / 4294967296 % 256)) (.int .u8 ((n : Int) / 16777216 % 256)) (.int .u8 ((n : Int) / 65536 % 256)) (.int .u8 ((n : Int) / 256 % 256)) (.int .u8 ((n : Int) % 256)) q0)
  have HG := Lib.hid (grown_own g0 fq.out.2 (Nat.le_refl _))
  clear q0 g0
  go_wp2_with fail
  refine bodyPost_ret (results_cell_row (fn := Try.f18) (p := 2) (ty := 56) rfl _ _ w.heap.size 56 _ _ _ rfl fq.out.1 Try.underlying56 rfl HS.out) rfl ?_
  exact ⟨rfl, HG⟩
theorem beyond_any (n : Nat) (hn : n < 18446744073709551616) (w : World) : Calls Try.prog 17 #[.int .u64 (n : Nat)] w fun e w' => e = .returned (.bool (decide (1099511627776 ≤ n))) ∧ w' = w := by
  go_enter Try.func17, Try.ntmps17
  go_wp2_with fail
  go_ret
  exact ⟨ret_bool (by rw [decide_eq_decide]; omega), rfl⟩
/-- a number that is none of a record's -/
def bad (l : List Nat) : Bool := l.any (fun x => decide (1099511627776 ≤ x))
theorem bad_snoc (l : List Nat) (i : Nat) (h : i < l.length) : bad (l.take (i + 1)) = (bad (l.take i) || decide (1099511627776 ≤ l[i])) := by
  unfold bad
  rw [List.take_succ_eq_append_getElem h, List.any_append]; simp
set_option maxRecDepth 100000 in
set_option maxHeartbeats 1000000 in
theorem index_u64 (v : Value) (l : List Nat) (hl : ∀ x ∈ l, x < 18446744073709551616) (w : World) (hv : NumsAt w v l) :
    Calls Try.prog 38 #[v, .func (.func 17) #[] #[]] w fun e w' => ∃ r : Int, e = .returned (.int .i64 r) ∧ (bad l = true ∧ 0 ≤ r ∨ bad l = false ∧ r = -1) ∧ w' = w := by
  obtain ⟨a, cap, rfl, hm, hc⟩ := hv
  unfold maxLen at hm
  obtain ⟨n, hn⟩ : ∃ n, n = l.length := ⟨_, rfl⟩
  rw [← hn] at hm ⊢
  have Hn := Lib.hid hn
  have HC : Hid (∀ i, i < n → ∃ (x : Addr) (y : Nat), a = some x ∧ w.cell? (x.add i) = some (.int .u64 (y : Nat)) ∧ y < 18446744073709551616 ∧ bad (l.take (i + 1)) = (bad (l.take i) || decide (1099511627776 ≤ y))) := fun i hi => by
    obtain ⟨x, h1, h2⟩ := hc i (by omega)
    exact ⟨x, _, h1, h2, hl _ (List.getElem_mem _), bad_snoc l i (by omega)⟩
  clear hn hc hl
  go_enter Try.func38, Try.ntmps38
  go_wp2
  go_loop [8] (fun iv => ∃ i : Nat, iv = .int .i64 (i : Nat) ∧ i ≤ n ∧ Hid (bad (l.take i) = false)) (fun iv => n - (intOf iv).toNat)
  case atStart => exact ⟨0, rfl, Nat.zero_le _, by show _ = _; simp [bad]⟩
  case round =>
    obtain ⟨i, rfl, hi, hb⟩ := hrel
    by_cases hlt : i < n
    · obtain ⟨x, y, rfl, cx, hy, hst⟩ := HC.out i hlt
      have HB := Lib.hid (beyond_any y hy w)
      have HSt := Lib.hid hst
      have hii : (i : Int) < (n : Int) := by omega
      clear hst hy
      by_cases hby : 1099511627776 ≤ y
      · have hd : decide (1099511627776 ≤ y) = true := by simpa using hby
        rw [hd] at HB
        have hbad : Hid (bad l = true) := by
          show _ = _
          have h1 := HSt.out
          rw [hb.out, hd, Bool.false_or] at h1
          unfold bad at h1 ⊢
          rw [← List.take_append_drop (i + 1) l, List.any_append, h1]; rfl
        clear hd hby
        go_wp2_with fail
        refine HB.out.mono ?_
        rintro e w1 ⟨rfl, hw1⟩
        obtain rfl : w = w1 := hw1.symm
        simp only []
        go_wp2_with fail
        go_ret
        exact ⟨_, rfl, .inl ⟨hbad.out, by omega⟩, rfl⟩
      · have hd : decide (1099511627776 ≤ y) = false := by simpa using hby
        rw [hd] at HB
        have hb2 : Hid (bad (l.take (i + 1)) = false) := by show _ = _; rw [HSt.out, hb.out, hd]; rfl
        clear hd hby
        go_wp2_with fail
        refine HB.out.mono ?_
        rintro e w1 ⟨rfl, hw1⟩
        obtain rfl : w = w1 := hw1.symm
        simp only []
        go_wp2_with fail
        go_round
        case rel => exact ⟨i + 1, by go_num, by omega, hb2⟩
        case measure => simp [intOf] <;> omega
    · obtain rfl : i = n := by omega
      have hbad : Hid (bad l = false) := by show _ = _; have h1 := hb.out; rw [Hn.out, List.take_length] at h1; exact h1
      clear hb
      go_wp2_with fail
      go_ret
      exact ⟨_, rfl, .inr ⟨hbad.out, rfl⟩, rfl⟩
set_option maxRecDepth 100000 in
theorem contains_u64 (v : Value) (l : List Nat) (hl : ∀ x ∈ l, x < 18446744073709551616) (w : World) (hv : NumsAt w v l) :
    Calls Try.prog 16 #[v, .func (.func 17) #[] #[]] w fun e w' => e = .returned (.bool (bad l)) ∧ w' = w := by
  have HI := Lib.hid (index_u64 v l hl w hv)
  clear hv hl
  obtain ⟨B, hB⟩ : ∃ B, B = bad l := ⟨_, rfl⟩
  rw [← hB] at HI ⊢
  clear hB
  go_enter Try.func16, Try.ntmps16
  go_wp2_with fail
  refine HI.out.mono ?_
  rintro e w1 ⟨r, rfl, hr, hw1⟩
  obtain rfl : w = w1 := hw1.symm
  simp only []
  rcases hr with ⟨rfl, hr⟩ | ⟨rfl, rfl⟩
  · go_wp2_with fail
    go_ret
    exact ⟨by simp [hr], rfl⟩
  · go_wp2_with fail
    go_ret
    exact ⟨by simp, rfl⟩
end Go.Proofs.Ytihohljhjdmamaa
