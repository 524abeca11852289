/- Room of lengths. -/
import Derived.Test.YtidmmcgnghdfdaaDoorPack10
import Derived.IntWalk
namespace Go.Proofs.YtidmmcgnghdfdaaDoor
open Go.RowKit SortPlain PackPlain ZerosPlain
set_option linter.unusedVariables false

/-- the room that the first k lengths take -/
def rs (X : List Nat) (k : Nat) : Nat := ksum (fun s => rm (wt X s)) k
theorem rs_succ (X : List Nat) (k : Nat) : rs X (k + 1) = rs X k + rm (wt X k) := rfl
theorem rs_le (X : List Nat) (k : Nat) : ∀ d, rs X k ≤ rs X (k + d)
  | 0 => Nat.le_refl _
  | d + 1 => by
    have := rs_le X k d
    show _ ≤ rs X (k + d) + _
    omega
theorem room_end {z p y : Nat} (hp : p = 2 ^ (15 - y)) (hpz : p ≤ z) (hz : z ≤ 32768) : Value.int .i64 (wrap64 ((z : Int) - wrap64 ((2 : Int) ^ (15 - y)))) = .int .i64 ((z - p : Nat) : Int) := by
  have hpi : (2 : Int) ^ (15 - y) = (p : Int) := by rw [hp]; simp
  rw [hpi]
  clear hp hpi
  have w1 : wrap64 (p : Int) = (p : Int) := IntWalk.wrap64_in _ (by omega)
  rw [w1]
  have w2 : wrap64 ((z : Int) - (p : Int)) = (z : Int) - (p : Int) := IntWalk.wrap64_in _ (by omega)
  rw [w2]
  congr 1
  omega
set_option maxRecDepth 100000 in
set_option maxHeartbeats 4000000 in
theorem room_any (vx : Value) (X : List Nat) (w : World) (hx : IntsAt w vx X) (hl : X.length ≤ 512) (hX : ∀ s, s < X.length → wt X s ≤ 15) (hT : rs X X.length ≤ 32768) :
    Calls Tryd.prog 52 #[vx, .int .i64 15] w fun e w' => e = .returned (.tuple #[.int .i64 (32768 - (rs X X.length : Nat)), .int .i64 0]) ∧ w' = w := by
  obtain ⟨ax, cx, rfl, _, hcx⟩ := hx
  have HC : Hid (∀ s, s < X.length → ∃ (g y : Nat), ax = some ⟨g, 0, none⟩ ∧ w.cell? ⟨g, s, none⟩ = some (.int .i64 (y : Nat)) ∧ y = wt X s ∧ y ≤ 15) := fun s hs => by
    obtain ⟨g, h3, h4⟩ := hcx s hs
    have e2 : wt X s = X[s] := by unfold wt; simp [List.getD, hs]
    exact ⟨g, X[s], h3, h4, e2.symm, by have := hX s hs; omega⟩
  have HS : Hid (∀ k, k ≤ X.length → rs X k ≤ 32768) := fun k hk => by
    have := rs_le X k (X.length - k)
    rw [show k + (X.length - k) = X.length by omega] at this
    omega
  obtain ⟨n0, hn0⟩ : ∃ n0, n0 = X.length := ⟨_, rfl⟩
  rw [← hn0] at HC HS hl ⊢
  have hl' : (n0 : Int) ≤ 512 := by omega
  clear hn0 hcx hX hT
  go_enter Tryd.func52, Tryd.ntmps52
  go_wp2_with (first
    | (go_at_call 15; refine (bits_ok 15 _ (by decide) (by decide)).mono ?_; rintro e w1 ⟨rfl, hw1⟩; obtain rfl : w = w1 := hw1.symm)
    | fail)
  go_loopw [6, 21] (fun sv iv wr => ∃ (k : Nat) (z : Nat), iv = .int .i64 (k : Nat) ∧ k ≤ n0 ∧ sv = .int .i64 (z : Nat) ∧ Hid (z + rs X k = 32768) ∧ wr = w) (fun _ iv _ => n0 - (intOf iv).toNat)
  case atStart => exact ⟨0, 32768, rfl, Nat.zero_le _, rfl, rfl, rfl⟩
  case round =>
    obtain ⟨k, z, rfl, hk, rfl, hz, hwr⟩ := hrel
    obtain rfl : w = wr := hwr.symm
    by_cases hlt : k < n0
    · obtain ⟨g, y, rfl, c1, hy, hyb⟩ := HC.out k hlt
      have hS := HS.out (k + 1) (by omega)
      have hr := rs_succ X k
      rw [← hy] at hr
      have hz0 := hz.out
      have hki : (k : Int) < (n0 : Int) := by omega
      have hyi : (y : Int) ≤ 15 := by omega
      have hy1 : (0 : Int) ≤ (y : Int) := by omega
      by_cases hy0 : y = 0
      · have hr0 : rs X (k + 1) = rs X k := by rw [hr, hy0]; rfl
        have Hr0 := Lib.hid hr0
        subst hy0
        clear hr hS hr0 hz0 hy
        go_wp2_with fail
        exact ⟨⟨k + 1, z, by rw [Int.natCast_add]; rfl, by omega, rfl, by show _ = _; rw [Hr0.out]; exact hz.out, trivial⟩, by simp [intOf]; omega⟩
      · have hyp : (0 : Int) < (y : Int) := by omega
        have hrm : rm y = 2 ^ (15 - y) := by unfold rm; rw [if_pos (by omega)]
        rw [hrm] at hr
        obtain ⟨p, hp⟩ : ∃ p, p = 2 ^ (15 - y) := ⟨_, rfl⟩
        rw [← hp] at hr
        have hpz : p ≤ z := by omega
        have hzz : z ≤ 32768 := by omega
        have Hr := Lib.hid hr
        have Hp := Lib.hid hp
        have hwd : IntKind.i64.wrap (15 - (y : Int)) = ((15 - y : Nat) : Int) := by rw [IntWalk.i64_in _ (by omega)]; omega
        clear hr hS hz0 hy hp hrm
        go_wp2_with fail
        refine ⟨⟨k + 1, z - p, by rw [Int.natCast_add]; rfl, by omega, ?_, by have hr := Hr.out; have hz0 := hz.out; show _ = _; omega, trivial⟩, by simp [intOf]; omega⟩
        clear HC HS hz
        exact room_end Hp.out hpz hzz
    · obtain rfl : k = n0 := by omega
      have hzf : (z : Int) = 32768 - (rs X k : Nat) := by have := hz.out; omega
      clear hz
      have Hzf := Lib.hid hzf
      clear hzf
      go_wp2_with fail
      go_ret2
      exact ⟨by rw [Hzf.out]; rfl, rfl⟩
end Go.Proofs.YtidmmcgnghdfdaaDoor
