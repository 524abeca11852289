/- canon's Read and Write. -/
import Derived.Test.YtidmmcgnghdfdaaDoorCoded6
namespace Go.Proofs.YtidmmcgnghdfdaaDoor
open Go.RowKit SortPlain PackPlain CanonPlain BitsPlain
set_option linter.unusedVariables false

set_option maxRecDepth 100000 in
set_option maxHeartbeats 4000000 in
theorem cread_any (vx : Value) (X : List Nat) (s : ByteArray) (m : List Bool) (a i : Nat) (w : World) (hx : IntsAt w vx X) (hok : CodeOk X) (hm : IsBits s.data.toList m) (hml : m.length ≤ 1048576) (hi : i < X.length) (h1 : 1 ≤ X.getD i 0) (ha : a + X.getD i 0 ≤ m.length) (hbits : (m.drop a).take (X.getD i 0) = bitsOf (codeAt X i) (X.getD i 0)) :
    Calls Tryd.prog 9 #[.agg #[.string s, .int .i64 (m.length : Nat)], .int .i64 (a : Nat), vx] w fun e w' => e = .returned (.tuple #[.int .u64 (i : Nat), .int .i64 (a + X.getD i 0 : Nat), .int .i64 0]) ∧ Hid (w.grownBy w' none) := by
  have Hchk := Lib.hid (fun w => check_good s m w hm hml)
  have HO : Hid (∀ W, w.grownBy W none → Calls Tryd.prog 23 #[vx] W fun e w' => ∃ b, e = .returned (.tuple #[.pointer (some ⟨b, 0, none⟩), .int .i64 0]) ∧ Hid (BookAt w' b X vx) ∧ Hid (W.grownBy w' none)) := fun W hW => open_any vx X W (hx.grown hW) hok
  have HN : Hid (∀ (W : World) (b : Nat), BookAt W b X vx → Calls Tryd.prog 29 #[.pointer (some ⟨b, 0, none⟩), .agg #[.string s, .int .i64 (m.length : Nat)], .int .i64 (a : Nat)] W fun e w' => e = .returned (.tuple #[.int .u64 (i : Nat), .int .i64 (a + X.getD i 0 : Nat), .int .i64 0]) ∧ Hid (W.grownBy w' none)) := fun W b hb => bnext_any b vx X s m a i W hb hok hm hml hi h1 ha hbits
  obtain ⟨n, hn⟩ : ∃ n, n = m.length := ⟨_, rfl⟩
  rw [← hn] at Hchk HN ha hml ⊢
  obtain ⟨L, hL⟩ : ∃ L, L = X.getD i 0 := ⟨_, rfl⟩
  rw [← hL] at HN ha h1 ⊢
  have ha1 : (a : Int) ≤ (n : Int) := by omega
  have ha0 : (0 : Int) ≤ (a : Int) := by omega
  clear hn hL hbits hm hx hok hi
  go_enter Tryd.func9, Tryd.ntmps9
  have hg0 := World.grownBy_alloc w (.cells #[.string s, .int .i64 (n : Nat)] 31) none
  have hf := heap_alloc_new w (.cells #[.string s, .int .i64 (n : Nat)] 31)
  have HF := Lib.hid (fun W' (hg : (w.alloc (.cells #[.string s, .int .i64 (n : Nat)] 31)).grownBy W' none) => cells2 hf hg (by simp))
  have Hg0 := Lib.hid hg0
  clear hf hg0
  go_wp2_with (first
    | (go_at_call 19; refine (Hchk.out _).mono ?_; rintro e w1 ⟨rfl, hb1⟩; have Hg1 := Lib.hid (grown_of_below hb1); clear hb1)
    | (go_at_call 23; refine (HO.out _ (grown_trans Hg0.out Hg1.out)).mono ?_; rintro e w2 ⟨b, rfl, hbk, hg2⟩; obtain ⟨a1, a2, a3, a4, a5⟩ := HF.out w2 (grown_trans Hg1.out hg2.out))
    | (go_at_call 29; refine (HN.out _ _ hbk.out).mono ?_; rintro e w3 ⟨rfl, hg3⟩)
    | fail)
  go_ret3
  exact ⟨rfl, grown_trans Hg0.out (grown_trans Hg1.out (grown_trans hg2.out hg3.out))⟩
end Go.Proofs.YtidmmcgnghdfdaaDoor
