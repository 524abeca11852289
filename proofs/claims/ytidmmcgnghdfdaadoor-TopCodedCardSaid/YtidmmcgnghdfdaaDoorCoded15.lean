/- table's Read. -/
import Derived.Test.YtidmmcgnghdfdaaDoorCoded14
namespace Go.Proofs.YtidmmcgnghdfdaaDoor
open Go.RowKit SortPlain PackPlain CanonPlain BitsPlain
set_option linter.unusedVariables false

set_option maxRecDepth 100000 in
set_option maxHeartbeats 4000000 in
theorem tread_any (b : ByteArray) (m rest : List Bool) (X : List Nat) (tE : TypeId) (vE : Value) (w : World) (hE : w.cell? ⟨0, 0, none⟩ = some (.iface tE vE)) (hm : IsBits b.data.toList m) (hml : m.length ≤ 1048576) (hok : CodeOk X) (hd : m = tabBits X ++ rest) :
    Calls Tryd.prog 8 #[.agg #[.string b, .int .i64 (m.length : Nat)], .int .i64 0, .int .i64 (X.length : Nat)] w fun e w' => ∃ v, e = .returned (.tuple #[v, .int .i64 ((tabBits X).length : Nat), .int .i64 0]) ∧ Hid (IntsAt w' v X) ∧ Hid (w.grownBy w' none) := by
  have Hchk := Lib.hid (fun w => check_good b m w hm hml)
  have HL : Hid (∀ (W : World) (r : Nat), ReadAt W r b m.length 0 → Calls Tryd.prog 27 #[.pointer (some ⟨r, 0, none⟩), .int .i64 (X.length : Nat)] W fun e w' => ∃ v, e = .returned (.tuple #[v, .nilIface]) ∧ Hid (IntsAt w' v X) ∧ Hid (ReadAt w' r b m.length (tabBits X).length) ∧ Hid (W.grownBy w' (some r))) := fun W r hr => tlens_any r b m rest X W hr hm hml hok hd
  have HI := Lib.hid (fun W => is_nil tE vE W)
  have hp := hok.pos
  have hXl := hok.len
  generalize (tabBits X).length = T at HL ⊢
  generalize m.length = n at Hchk HL hml ⊢
  obtain ⟨n0, hn0⟩ : ∃ n0, n0 = X.length := ⟨_, rfl⟩
  rw [← hn0] at HL hp hXl ⊢
  clear hm hok hd hn0
  have hni : (n0 : Int) ≤ 512 := by omega
  have hpi : (1 : Int) ≤ (n0 : Int) := by omega
  have hnn : (0 : Int) ≤ (n : Int) := by omega
  have HE := Lib.hid hE
  clear hE
  go_enter Tryd.func8, Tryd.ntmps8
  have hg0 := World.grownBy_alloc w (.cells #[.string b, .int .i64 (n : Nat)] 31) none
  have hf := heap_alloc_new w (.cells #[.string b, .int .i64 (n : Nat)] 31)
  have HF := Lib.hid (fun W' (hg : (w.alloc (.cells #[.string b, .int .i64 (n : Nat)] 31)).grownBy W' none) => cells2 hf hg (by simp))
  have Hg0 := Lib.hid hg0
  clear hf hg0
  go_wp2_with (first
    | (go_at_call 19; (with_reducible refine (Hchk.out _).mono ?_); rintro e w1 ⟨rfl, hb1⟩; have Hg1 := Lib.hid (grown_of_below hb1); clear hb1; obtain ⟨a1, a2, a3, a4, a5⟩ := HF.out w1 Hg1.out)
    | fail)
  clear a1 a2 a3 a4 a5
  have hrd : Hid (ReadAt (w1.alloc (.cells #[.string b, .int .i64 (n : Nat), .int .i64 0] 69)) w1.heap.size b n 0) := heap_alloc_new w1 _
  have hg2 : Hid (w1.grownBy (w1.alloc (.cells #[.string b, .int .i64 (n : Nat), .int .i64 0] 69)) none) := World.grownBy_alloc w1 _ none
  generalize w1.alloc (.cells #[.string b, .int .i64 (n : Nat), .int .i64 0] 69) = w2 at hrd hg2 ⊢
  have Hsz : Hid (w.heap.size ≤ w1.heap.size) := (grown_trans Hg0.out Hg1.out).size
  obtain ⟨r, hr⟩ : ∃ r, r = w1.heap.size := ⟨_, rfl⟩
  rw [← hr] at hrd Hsz ⊢
  have Hr := Lib.hid hr
  clear hr
  with_reducible refine (HL.out _ _ hrd.out).mono ?_
  rintro e w3 ⟨v, rfl, hX, hr3, hg3⟩
  have Hg3 : Hid (w.grownBy w3 none) := by
    show w.grownBy w3 none
    have h1 := grown_trans Hg0.out (grown_trans Hg1.out hg2.out)
    have h2 := hg3.out
    refine ⟨h2.os.trans h1.os, h2.tape.trans h1.tape, h2.output.trans h1.output, Nat.le_trans h1.size h2.size, fun k hk _ => ?_⟩
    have h3 := Hsz.out
    rw [h2.block k (Nat.lt_of_lt_of_le hk h1.size) (by simp; omega)]
    exact h1.block k hk (by simp)
  have cE : w3.cell? ⟨0, 0, none⟩ = some (.iface tE vE) := Hg3.out.cell HE.out (by simp)
  simp only []
  go_wp2_with (first
    | (go_at_call 28; (with_reducible refine (HI.out _).mono ?_); rintro e w4 ⟨rfl, hw4⟩; obtain rfl : w3 = w4 := hw4.symm)
    | fail)
  have c2 : w3.cell? ⟨r, 2, none⟩ = some (.int .i64 (T : Nat)) := row_cell hr3.out 2 _ rfl
  go_quiet (fail)
  clear c2
  go_wp2_with fail
  go_ret3
  refine ⟨v, rfl, ?_, grown_trans Hg3.out (grown_drewN _ _ _)⟩
  exact hX.out.grown (grown_drewN _ _ _)
end Go.Proofs.YtidmmcgnghdfdaaDoor
