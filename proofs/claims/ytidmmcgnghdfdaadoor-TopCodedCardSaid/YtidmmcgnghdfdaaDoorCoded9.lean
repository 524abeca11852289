/- table's check, Size and Add. -/
import Derived.Test.YtidmmcgnghdfdaaDoorCoded8
namespace Go.Proofs.YtidmmcgnghdfdaaDoor
open Go.RowKit SortPlain PackPlain CanonPlain BitsPlain
set_option linter.unusedVariables false

set_option maxRecDepth 100000 in
set_option maxHeartbeats 2000000 in
theorem tcheck_any (vx : Value) (X : List Nat) (w : World) (hx : IntsAt w vx X) (hok : CodeOk X) :
    Calls Tryd.prog 30 #[vx] w fun e w' => e = .returned (.int .i64 0) ∧ w' = w := by
  have HC := Lib.hid (check_any vx X w hx hok)
  have hp := hok.pos
  obtain ⟨ax, cx, rfl, _, hcx⟩ := hx
  clear hcx hok
  generalize X.length = n0 at *
  have hp0 : ((n0 : Int) == 0) = false := by simp; omega
  go_enter Tryd.func30, Tryd.ntmps30
  go_wp2_with (first
    | (go_at_call 41; (with_reducible refine HC.out.mono ?_); rintro e w1 ⟨rfl, hw1⟩; obtain rfl : w = w1 := hw1.symm)
    | fail)
  go_ret
  exact ⟨rfl, rfl⟩

/-- the cells of right lengths, one by one -/
theorem lens_at {vx : Value} {X : List Nat} {w : World} (hx : IntsAt w vx X) : ∃ ax cx, vx = .slice ax X.length cx ∧ ∀ W : World, w.grownBy W none → ∀ s, s < X.length → ∃ g, ax = some ⟨g, 0, none⟩ ∧ W.cell? ⟨g, s, none⟩ = some (.int .i64 (X.getD s 0 : Nat)) := by
  obtain ⟨ax, cx, rfl, _, hcx⟩ := hx
  refine ⟨ax, cx, rfl, fun W hW s hs => ?_⟩
  obtain ⟨g, h1, h2⟩ := hcx s hs
  refine ⟨g, h1, ?_⟩
  rw [hW.cell h2 (by simp)]
  simp [List.getD, hs]

set_option maxRecDepth 100000 in
set_option maxHeartbeats 4000000 in
theorem size_any (vx : Value) (X : List Nat) (w : World) (hx : IntsAt w vx X) (hok : CodeOk X) :
    Calls Tryd.prog 11 #[vx] w fun e w' => e = .returned (.tuple #[.int .i64 (sizeTo X X.length : Nat), .int .i64 0]) ∧ Hid (w.grownBy w' none) := by
  have HC := Lib.hid (tcheck_any vx X w hx hok)
  have HS : Hid (∀ i, i ≤ X.length → sizeTo X i ≤ 20000) := fun i hi => by
    have h1 := sizeTo_le X hok.le i
    have h2 := hok.len
    omega
  have HLe : Hid (∀ i, X.getD i 0 ≤ 15) := hok.le
  have HAh : Hid (∀ i, prv X i ≤ 15) := prv_le X hok.le
  have hp := hok.pos
  have hXl := hok.len
  obtain ⟨ax, cx, rfl, hcx⟩ := lens_at hx
  have HV := Lib.hid hcx
  obtain ⟨g, rfl, c0⟩ := hcx w (grown_self _ _) 0 hp
  clear hx hok hcx
  obtain ⟨n0, hn0⟩ : ∃ n0, n0 = X.length := ⟨_, rfl⟩
  rw [← hn0] at HC HS HV hp hXl ⊢
  clear hn0
  have hni : (n0 : Int) ≤ 512 := by omega
  have h0l := HLe.out 0
  have Hx0 := Lib.hid (prv_zero X)
  generalize X.getD 0 0 = x0 at c0 h0l Hx0
  go_enter Tryd.func11, Tryd.ntmps11
  go_wp2_with (first
    | (go_at_call 30; (with_reducible refine HC.out.mono ?_); rintro e w1 ⟨rfl, hw1⟩; obtain rfl : w = w1 := hw1.symm)
    | fail)
  go_quiet (fail)
  go_wp2_with fail
  generalize hW : w.drewN _ = w1
  have Hg : Hid (w.grownBy w1 none) := by rw [← hW]; exact grown_drewN _ _ _
  clear hW c0
  go_loopw [5, 6, 19] (fun nv av iv wr => ∃ (i z a : Nat), iv = .int .i64 (i : Nat) ∧ i ≤ n0 ∧ nv = .int .i64 (z : Nat) ∧ av = .int .i64 (a : Nat) ∧ Hid (z = sizeTo X i) ∧ Hid (a = prv X i) ∧ wr = w1) (fun _ _ iv _ => n0 - (intOf iv).toNat)
  case atStart => exact ⟨0, 4, x0, rfl, Nat.zero_le _, rfl, rfl, rfl, Hx0.out.symm, rfl⟩
  case round =>
    obtain ⟨i, z, a, rfl, hi, rfl, rfl, Hz, Ha, hwr⟩ := hrel
    obtain rfl : w1 = wr := hwr.symm
    by_cases hlt : i < n0
    · obtain ⟨g', hg', c1⟩ := HV.out w1 Hg.out i hlt
      injection hg' with hg'
      injection hg' with hg'
      subst hg'
      have hb := HS.out i hi
      have hl := HLe.out i
      have ha := HAh.out i
      rw [← Hz.out] at hb
      rw [← Ha.out] at ha
      have Hn : Hid (sizeTo X (i + 1) = z + (1 + 2 * (X.getD i 0 - a + (a - X.getD i 0)))) := by show _ = _; rw [Hz.out, Ha.out]; rfl
      have Hah := Lib.hid (prv_succ X i)
      generalize X.getD i 0 = l at c1 hl Hn Hah
      have hii : (i : Int) < (n0 : Int) := by omega
      go_wp2_with fail
      refine ⟨⟨i + 1, z + (1 + 2 * (l - a + (a - l))), l, by rw [Int.natCast_add]; rfl, by omega, ?_, rfl, Hn.out.symm, Hah.out.symm, trivial⟩, by simp [intOf]; omega⟩
      congr 1
      rcases Nat.le_total l a with h | h
      · rw [Int.max_eq_right (by omega)]; omega
      · rw [Int.max_eq_left (by omega)]; omega
    · obtain rfl : i = n0 := by omega
      go_wp2_with fail
      go_ret2
      exact ⟨by rw [Hz.out]; rfl, Hg⟩
end Go.Proofs.YtidmmcgnghdfdaaDoor
