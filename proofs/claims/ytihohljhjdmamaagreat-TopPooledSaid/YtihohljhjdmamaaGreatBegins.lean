/- begins: the answers that the document gives. -/
import Derived.Test.YtihohljhjdmamaaGreatBits5
namespace Go.Proofs.YtihohljhjdmamaaGreat
open Go.RowKit BitsPlain
set_option linter.unusedVariables false

set_option maxRecDepth 100000 in
set_option maxHeartbeats 2000000 in
theorem begins_any (w : World) :
    Calls Tryz.prog 4 #[] w fun e w' => e = .returned (.bool true) ∧ Below w.heap.size w w' := by
  have HP : Hid (∀ w : World, Calls Tryz.prog 12 #[.agg #[.string ⟨#[]⟩, .int .i64 0], .int .u64 5, .int .i64 3] w fun e w' => ∃ B', IsBits B' [true, false, true] ∧ e = .returned (.tuple #[.agg #[.string ⟨B'.toArray⟩, .int .i64 3], .int .i64 0]) ∧ Hid (w.grownBy w' none)) := fun w => by
    refine (put_good ⟨#[]⟩ [] 5 3 w IsBits.nil (by decide) (by decide) (by decide)).mono ?_
    rintro e w' ⟨B', h1, h2, h3⟩
    exact ⟨B', h1, h2, grown_of_below h3⟩
  have HG : Hid (∀ (B' : List UInt8) (w : World), IsBits B' [true, false, true] → Calls Tryz.prog 13 #[.agg #[.string ⟨B'.toArray⟩, .int .i64 3], .int .i64 0, .int .i64 3] w fun e w' => e = .returned (.tuple #[.int .u64 5, .int .i64 0]) ∧ Hid (w.grownBy w' none)) := fun B' w h => by
    refine (get_good ⟨B'.toArray⟩ [true, false, true] 0 3 w h (by decide) (by decide) (by decide)).mono ?_
    rintro e w' ⟨h1, h2⟩
    exact ⟨h1, grown_of_below h2⟩
  go_enter Tryz.func4, Tryz.ntmps4
  go_wp2_with (first
    | (go_at_call 12; refine (HP.out _).mono ?_; rintro e w1 ⟨B', hB, rfl, h1⟩; have HB := Lib.hid hB; clear hB)
    | (go_at_call 13; refine (HG.out _ _ HB.out).mono ?_; rintro e w2 ⟨rfl, h2⟩; obtain ⟨f1, f2, f3, f4, f5⟩ := cells2 (heap_alloc_new w1 _) h2.out (by simp))
    | fail)
  go_ret
  exact ⟨rfl, below_none (grown_trans h1.out (grown_trans (World.grownBy_alloc _ _ _) h2.out)) (Nat.le_refl _)⟩
end Go.Proofs.YtihohljhjdmamaaGreat
