/- table's reader: take. -/
import Derived.Test.YtidmmcgnghdfdaaDoorCoded11
import Derived.StillTailTactics
namespace Go.Proofs.YtidmmcgnghdfdaaDoor
open Go.RowKit SortPlain PackPlain CanonPlain BitsPlain
set_option linter.unusedVariables false

/-- a reader of the bits b at a place -/
def ReadAt (w : World) (r : Nat) (b : ByteArray) (n a : Nat) : Prop := w.heap[r]? = some (.cells #[.string b, .int .i64 (n : Nat), .int .i64 (a : Nat)] 69 (0, 0))

set_option maxRecDepth 100000 in
set_option maxHeartbeats 4000000 in
theorem take_any (r : Nat) (b : ByteArray) (m : List Bool) (a k : Nat) (w : World) (hr : ReadAt w r b m.length a) (hm : IsBits b.data.toList m) (hml : m.length ≤ 1048576) (ha : a + k ≤ m.length) (hk : k ≤ 60) :
    Calls Tryd.prog 43 #[.pointer (some ⟨r, 0, none⟩), .int .i64 (k : Nat)] w fun e w' => e = .returned (.tuple #[.int .i64 (nat ((m.drop a).take k) : Nat), .nilIface]) ∧ Hid (ReadAt w' r b m.length (a + k)) ∧ Hid (w.grownBy w' (some r)) := by
  have HA : Hid (∀ (W : World), Calls Tryd.prog 33 #[.agg #[.string b, .int .i64 (m.length : Nat)], .int .i64 (a : Nat), .int .i64 (k : Nat)] W fun e w' => e = .returned (.int .u64 (nat ((m.drop a).take k) : Nat)) ∧ Hid (W.grownBy w' none)) := fun W => by
    have hlen := hm.length
    rw [size_data] at hlen
    refine (at_any b (m.length : Nat) a k W (by omega) (by omega) (by omega)).mono ?_
    rintro e w' ⟨rfl, h2⟩
    rw [hm.slice a k ha]
    exact ⟨rfl, grown_of_below h2⟩
  have hx : nat ((m.drop a).take k) < 2 ^ 60 := by
    have h1 := nat_lt ((m.drop a).take k)
    have h2 : ((m.drop a).take k).length ≤ 60 := Nat.le_trans (List.length_take_le _ _) hk
    exact Nat.lt_of_lt_of_le h1 (pow_le_pow2 h2)
  generalize nat ((m.drop a).take k) = x at HA hx ⊢
  have hx2 : x < 1152921504606846976 := hx
  clear hx
  generalize m.length = n at HA hr hml ha ⊢
  clear hm
  unfold ReadAt at hr
  have c0 := row_cell hr 0 _ rfl
  have c1 := row_cell hr 1 _ rfl
  have c2 := row_cell hr 2 _ rfl
  have Hr := Lib.hid hr
  have hw1 : IntKind.i64.wrap ((n : Int) - (a : Int)) = (n : Int) - (a : Int) := IntWalk.i64_in _ (by omega)
  have hgt : decide ((n : Int) - (a : Int) < (k : Int)) = false := by simp; omega
  have hgt2 : ¬ ((n : Int) - (a : Int) < (k : Int)) := by omega
  have hw2 : IntKind.i64.wrap ((a : Int) + (k : Int)) = ((a + k : Nat) : Int) := by rw [IntWalk.i64_in _ (by omega)]; omega
  have hw3 : IntKind.i64.wrap (x : Int) = (x : Int) := IntWalk.i64_in _ (by omega)
  clear hr
  go_enter Tryd.func43, Tryd.ntmps43
  go_wp2_with fail
  go_quiet (fail)
  go_wp2_with fail
  have c01 : (w.drewN nq).cell? ⟨r, 0, none⟩ = some (.string b) := c0
  have c11 : (w.drewN nq).cell? ⟨r, 1, none⟩ = some (.int .i64 (n : Nat)) := c1
  have c21 : (w.drewN nq).cell? ⟨r, 2, none⟩ = some (.int .i64 (a : Nat)) := c2
  have Hr1 : Hid ((w.drewN nq).heap[r]? = some (.cells #[.string b, .int .i64 (n : Nat), .int .i64 (a : Nat)] 69 (0, 0))) := Hr.out
  have Hg1 := Lib.hid (grown_drewN w nq (some r))
  clear c0 c1 c2 hgt hgt2 hw1
  generalize w.drewN nq = w1 at c01 c11 c21 Hr1 Hg1 ⊢
  go_still_tail 9, (by kernel_rfl)
  have Hr2 : Hid (w1.drew.heap[r]? = some (.cells #[.string b, .int .i64 (n : Nat), .int .i64 (a : Nat)] 69 (0, 0))) := Hr1.out
  have Hg2 : Hid (w.grownBy w1.drew (some r)) := grown_trans Hg1.out (grown_drew w1 _)
  clear c01 c11 c21
  change wpList _ _ _ _ _ w1.drew
  generalize w1.drew = w2 at Hr2 Hg2 ⊢
  go_wp2_with (first
    | (go_at_call 33; (with_reducible refine (HA.out _).mono ?_); rintro e w3 ⟨rfl, hg3⟩; obtain ⟨d0, d1, d2, d3, d4, d5, d6⟩ := cells3 Hr2.out hg3.out (by simp); have Hd0 := Lib.hid d0; clear d0)
    | fail)
  go_ret2
  refine ⟨rfl, ?_, ?_⟩
  · show ReadAt _ _ _ _ _
    unfold ReadAt
    rw [heap_setCell_same _ r 2 _ _ _ Hd0.out]
    rfl
  · refine grown_trans Hg2.out (grown_trans ?_ (grown_setCell w3 ⟨r, 2, none⟩ _))
    have h1 := hg3.out
    exact ⟨h1.os, h1.tape, h1.output, h1.size, fun k hk hne => h1.block k hk (by simp)⟩
end Go.Proofs.YtidmmcgnghdfdaaDoor
