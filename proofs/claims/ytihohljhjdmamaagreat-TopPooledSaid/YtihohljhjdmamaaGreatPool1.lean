/- recs: how many sectors, bytes padded, a head. -/
import Derived.Test.YtihohljhjdmamaaGreatKept15
import Derived.Test.YtihohljhjdmamaaGreatKept14
import Derived.Test.YtihohljhjdmamaaGreatCrc2
import Derived.Test.YtihohljhjdmamaaGreatBits3
import Derived.IntWalk
namespace Go.Proofs.YtihohljhjdmamaaGreat
open Go.RowKit
set_option linter.unusedVariables false

set_option maxRecDepth 100000 in
theorem each_zero (w : World) : Calls Tryz.prog 57 #[.int .i64 0] w fun e w' => e = .returned (.int .i64 1) ∧ w' = w := by
  go_enter Tryz.func57, Tryz.ntmps57
  go_wp2_with fail
  go_ret
  exact ⟨rfl, rfl⟩
/-- how many sectors a text takes, the head's with them -/
def needN (c : Nat) : Nat := 1 + (c + 63) / 64
set_option maxRecDepth 100000 in
set_option maxHeartbeats 1000000 in
theorem need_any (c : Nat) (hc : c ≤ 65536) (w : World) : Calls Tryz.prog 36 #[.int .i64 0, .int .u64 (c : Nat)] w fun e w' => e = .returned (.tuple #[.int .i64 (needN c : Nat), .int .i64 0]) ∧ w' = w := by
  have HE := Lib.hid (fun w => each_zero w)
  have hci : (c : Int) ≤ 65536 := by omega
  have hc0 : (0 : Int) ≤ (c : Int) := by omega
  have hw1 : IntKind.i64.wrap (c : Int) = (c : Int) := IntWalk.i64_in _ (by omega)
  go_enter Tryz.func36, Tryz.ntmps36
  go_wp2_with (first
    | (go_at_call 57; (with_reducible refine (HE.out _).mono ?_); rintro e w1 ⟨rfl, hw⟩; obtain rfl : w = w1 := hw.symm)
    | fail)
  go_ret2
  have e : (1 + ((c : Int) + 64 - 1) / 64) = ((needN c : Nat) : Int) := by unfold needN; omega
  refine ⟨?_, rfl⟩
  show Ending.returned (.tuple #[.int .i64 (1 + ((c : Int) + 64 - 1) / 64), .int .i64 0]) = _
  rw [e]
theorem extract_toList (s : ByteArray) (a b : Nat) : (s.extract a b).data.toList = (s.data.toList.take b).drop a := by
  rw [ByteArray.data_extract, Array.toList_extract]
  simp only [List.extract_eq_take_drop]
  rw [List.drop_take]
theorem extract_all (s : ByteArray) : s.extract 0 s.size = s := ba_ext (by rw [extract_toList, List.drop_zero, List.take_of_length_le (by rw [size_data]; exact Nat.le_refl _)])
theorem extract_left (s D : ByteArray) : (s ++ D).extract 0 s.size = s := ba_ext (by
  rw [extract_toList, List.drop_zero, ByteArray.data_append, Array.toList_append, List.take_append_of_le_length (by rw [size_data]; exact Nat.le_refl _), List.take_of_length_le (by rw [size_data]; exact Nat.le_refl _)])
set_option maxRecDepth 100000 in
set_option maxHeartbeats 1000000 in
theorem padded_any (s : ByteArray) (hs : s.size ≤ 65536) (w : World) : Calls Tryz.prog 38 #[.string s] w fun e w' => ∃ p : ByteArray, e = .returned (.string p) ∧ p.size = 64 * ((s.size + 63) / 64) ∧ p.extract 0 s.size = s ∧ Hid (w.grownBy w' none) := by
  have HR : Hid (∀ (k : Nat) (W : World), k ≤ 1048576 → Calls Tryz.prog 61 #[.string ⟨#[0]⟩, .int .i64 (k : Nat)] W fun e w' => ∃ D : ByteArray, D.size = k ∧ e = .returned (.string D) ∧ Hid (W.grownBy w' none)) := fun k W hk => repeat_zeros k hk W
  have hsi : (s.size : Int) ≤ 65536 := by omega
  by_cases hr : s.size % 64 = 0
  · have hri : (s.size : Int) % 64 = 0 := by omega
    have hrt : (s.size : Int).tmod 64 = 0 := by rw [Int.tmod_eq_emod_of_nonneg (by omega)]; exact hri
    go_enter Tryz.func38, Tryz.ntmps38
    go_wp2_with fail
    go_ret
    exact ⟨s, rfl, by omega, extract_all s, grown_self _ _⟩
  · obtain ⟨r, hre⟩ : ∃ r, r = s.size % 64 := ⟨_, rfl⟩
    have hri : (s.size : Int) % 64 = (r : Int) := by omega
    have hr0 : (0 : Int) < (r : Int) := by omega
    have hr1 : (r : Int) < 64 := by omega
    have HR1 : Hid (∀ (W : World), Calls Tryz.prog 61 #[.string ⟨#[0]⟩, .int .i64 (64 - (r : Int))] W fun e w' => ∃ D : ByteArray, D.size = 64 - r ∧ e = .returned (.string D) ∧ Hid (W.grownBy w' none)) := fun W => by
      have h := HR.out (64 - r) W (by omega)
      rw [show ((64 - r : Nat) : Int) = 64 - (r : Int) by omega] at h
      exact h
    have Hre := Lib.hid hre
    clear hre hr
    go_enter Tryz.func38, Tryz.ntmps38
    go_wp2_with fail
    with_reducible refine (HR1.out _).mono ?_
    rintro e w1 ⟨D, hD, rfl, hg⟩
    have HD := Lib.hid hD
    have hD3 : D.size ≤ 64 := by omega
    clear hD
    simp only []
    go_wp2_with fail
    go_ret
    refine ⟨s ++ D, rfl, ?_, ?_, hg⟩
    · have := HD.out
      have := Hre.out
      rw [ByteArray.size_append]
      omega
    · exact extract_left s D
end Go.Proofs.YtihohljhjdmamaaGreat
