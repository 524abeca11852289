/- Names: how they are compared, and whether texts are names. -/
import Derived.Test.YtihohljhjdmamaaGreatRows
import Derived.Test.YtihohljhjdmamaaGreatKit4
import Derived.Handy
import Derived.BigRegion
import Derived.Deep.QuietTactic
import Derived.BigQuiet
import Derived.Outline
namespace Go.Proofs.YtihohljhjdmamaaGreat
open Go.RowKit
set_option linter.unusedVariables false

theorem bytesLess_self : ∀ l : List UInt8, Op.bytesLess l l = false
  | [] => by simp [Op.bytesLess]
  | a :: l => by
    have h : decide (a < a) = false := by simp
    rw [Op.bytesLess, h, bytesLess_self l]; simp
/-- how two texts compare -/
def cmpS (x y : ByteArray) : Int := if Op.bytesLess x.toList y.toList = true then -1 else if (x.toList == y.toList) = true then 0 else 1
theorem toList_inj {x y : ByteArray} (h : x.toList = y.toList) : x = y := by
  rw [ByteArray.toList_eq, ByteArray.toList_eq] at h
  exact ba_ext h
theorem cmpS_self (x : ByteArray) : cmpS x x = 0 := by unfold cmpS; rw [bytesLess_self]; simp
theorem cmpS_eq {x y : ByteArray} (h : cmpS x y = 0) : x = y := by
  unfold cmpS at h
  split at h
  · exact absurd h (by decide)
  · split at h
    · rename_i h2; exact toList_inj (by simpa using h2)
    · exact absurd h (by decide)
theorem nan_any (x : ByteArray) (w : World) : Calls Tryz.prog 68 #[.string x] w fun e w' => e = .returned (.bool false) ∧ w' = w := by
  go_enter Tryz.func68, Tryz.ntmps68
  go_wp2_with fail
  go_ret
  exact ⟨by simp, rfl⟩
set_option maxRecDepth 100000 in
theorem compare_any (x y : ByteArray) (w : World) : Calls Tryz.prog 44 #[.string x, .string y] w fun e w' => e = .returned (.int .i64 (cmpS x y)) ∧ w' = w := by
  have HX := Lib.hid (nan_any x w)
  have HY := Lib.hid (nan_any y w)
  by_cases h1 : Op.bytesLess x.toList y.toList = true
  · have e : cmpS x y = -1 := by unfold cmpS; rw [if_pos h1]
    rw [e]
    clear e
    go_enter Tryz.func44, Tryz.ntmps44
    go_wp2_with fail
    refine HX.out.mono ?_
    rintro e w' ⟨rfl, rfl⟩
    simp only []
    go_wp2_with fail
    refine HY.out.mono ?_
    rintro e w' ⟨rfl, rfl⟩
    simp only []
    go_wp2_with fail
    go_ret
    exact ⟨rfl, rfl⟩
  · have h1' : Op.bytesLess x.toList y.toList = false := by simpa using h1
    by_cases h2 : (x.toList == y.toList) = true
    · have e : cmpS x y = 0 := by unfold cmpS; rw [if_neg h1, if_pos h2]
      rw [e]
      clear e h1
      go_enter Tryz.func44, Tryz.ntmps44
      go_wp2_with fail
      refine HX.out.mono ?_
      rintro e w' ⟨rfl, rfl⟩
      simp only []
      go_wp2_with fail
      refine HY.out.mono ?_
      rintro e w' ⟨rfl, rfl⟩
      simp only []
      go_wp2_with fail
      go_ret
      exact ⟨rfl, rfl⟩
    · have e : cmpS x y = 1 := by unfold cmpS; rw [if_neg h1, if_neg h2]
      have h2' : (x.toList == y.toList) = false := by simpa using h2
      rw [e]
      clear e h1 h2
      go_enter Tryz.func44, Tryz.ntmps44
      go_wp2_with fail
      refine HX.out.mono ?_
      rintro e w' ⟨rfl, rfl⟩
      simp only []
      go_wp2_with fail
      refine HY.out.mono ?_
      rintro e w' ⟨rfl, rfl⟩
      simp only []
      go_wp2_with fail
      go_ret
      exact ⟨rfl, rfl⟩

set_option maxRecDepth 100000 in
theorem find1_any (x d y : ByteArray) (w : World) : Calls Tryz.prog 43 #[.agg #[.string x, .string d], .string y] w fun e w' => e = .returned (.int .i64 (cmpS x y)) ∧ Hid (w.grownBy w' none) := by
  have HX := Lib.hid (fun w => compare_any x y w)
  have hg0 := Lib.hid (World.grownBy_alloc w (.cells #[.string x, .string d] 62) none)
  go_enter Tryz.func43, Tryz.ntmps43
  go_wp2_with fail
  refine (HX.out _).mono ?_
  rintro e w' ⟨rfl, rfl⟩
  simp only []
  go_wp2_with fail
  go_ret
  exact ⟨rfl, hg0⟩
set_option maxRecDepth 100000 in
theorem sectors_any (x d : ByteArray) (m : Nat) (hd : d.size = 64 * m) (hm : m ≤ 16384) (w : World) : Calls Tryz.prog 18 #[.agg #[.string x, .string d]] w fun e w' => e = .returned (.int .i64 (m : Nat)) ∧ Hid (w.grownBy w' none) := by
  have hg0 := Lib.hid (World.grownBy_alloc w (.cells #[.string x, .string d] 62) none)
  have hdi : ((d.size : Nat) : Int) / 64 = (m : Int) := by omega
  clear hd
  go_enter Tryz.func18, Tryz.ntmps18
  go_wp2_with fail
  go_ret
  exact ⟨ret_int (by first | exact hdi | omega), hg0⟩
/-- whether a text is a name -/
def isNm (s : ByteArray) : Bool := !(s.toList == []) && !decide (16 < s.size)
set_option maxRecDepth 100000 in
theorem named1_any (s : ByteArray) (w : World) : Calls Tryz.prog 79 #[.string s] w fun e w' => e = .returned (.bool (!isNm s)) ∧ w' = w := by
  by_cases h : s.toList = []
  · have hb : (s.toList == []) = true := by simpa using h
    have e1 : isNm s = false := by unfold isNm; rw [hb]; rfl
    rw [e1]
    clear e1
    go_enter Tryz.func79, Tryz.ntmps79
    go_wp2_with fail
    go_ret
    exact ⟨rfl, rfl⟩
  · have hb : (s.toList == []) = false := by simpa using h
    have e1 : isNm s = !decide (16 < s.size) := by unfold isNm; rw [hb]; rfl
    rw [e1, Bool.not_not]
    clear e1
    go_enter Tryz.func79, Tryz.ntmps79
    go_wp2_with fail
    go_ret
    exact ⟨ret_bool (by rw [decide_eq_decide]; omega), rfl⟩
end Go.Proofs.YtihohljhjdmamaaGreat
