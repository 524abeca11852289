/- TopPooled's walk, whatever the input. -/
import Derived.Test.YtihohljhjdmamaaGreatPool21
namespace Go.Proofs.YtihohljhjdmamaaGreat
open Go.RowKit
set_option linter.unusedVariables false

set_option maxRecDepth 100000 in
set_option maxHeartbeats 4000000 in
theorem topPooled_any (s : ByteArray) (a : Int) (w : World) :
    Calls Tryz.prog 3 #[.string s, .int .i64 a] w fun e w' => e = .returned (.bool true) ∧ Below w.heap.size w w' := by
  by_cases h : s.size ≤ 3000 ∧ 1 ≤ a ∧ a ≤ 256
  · obtain ⟨h1, h2, h3⟩ := h
    obtain ⟨F, rfl⟩ : ∃ F : Nat, a = (F : Nat) := ⟨a.toNat, by omega⟩
    exact topPooled_walk s h1 (by omega) (by omega) rfl rfl rfl w
  · have HBe := Lib.hid (fun W => begins_any W)
    go_enter Tryz.func3, Tryz.ntmps3
    go_wp2_with fail
    (with_reducible refine (HBe.out _).mono ?_)
    rintro e w1 ⟨rfl, hb1⟩
    simp only []
    by_cases h1 : 3000 < s.size
    · have h1' : (3000 : Int) < (s.size : Nat) := by omega
      go_wp2_with fail
      go_ret
      exact ⟨rfl, hb1⟩
    · have h1' : ¬ (3000 : Int) < (s.size : Nat) := by omega
      by_cases h2 : a < 1
      · go_wp2_with fail
        go_ret
        exact ⟨rfl, hb1⟩
      · have h3 : 256 < a := by omega
        go_wp2_with fail
        go_ret
        exact ⟨rfl, hb1⟩
end Go.Proofs.YtihohljhjdmamaaGreat
