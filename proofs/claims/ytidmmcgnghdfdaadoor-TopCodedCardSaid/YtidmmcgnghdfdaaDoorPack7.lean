/- What pack's Cost tells; Lengths at a limit that is none. -/
import Derived.Test.YtidmmcgnghdfdaaDoorPack6
namespace Go.Proofs.YtidmmcgnghdfdaaDoor
open Go.RowKit SortPlain PackPlain
set_option linter.unusedVariables false

set_option maxRecDepth 100000 in
set_option maxHeartbeats 4000000 in
theorem lengths_bad (v : Value) (W : List Nat) (lim : Int) (w : World) (hv : NumsAt w v W) (hl : W.length ≤ 512) (hW : ∀ x ∈ W, x ≤ 1099511627776) (h : lim < 1 ∨ 15 < lim) :
    Calls Tryd.prog 5 #[v, .int .i64 lim] w fun e w' => e = .returned (.tuple #[.slice none 0 0, .int .i64 1]) ∧ w' = w := by
  have HA := Lib.hid (alphabet_any v W w hv hl hW)
  have HB := Lib.hid h
  obtain ⟨a, cp, rfl, hm, hcc⟩ := hv
  clear hm hcc hW h
  generalize W.length = n0 at *
  go_enter Tryd.func5, Tryd.ntmps5
  go_wp2_with (first
    | (go_at_call 14; refine HA.out.mono ?_; rintro e w1 ⟨rfl, hw1⟩; obtain rfl : w = w1 := hw1.symm)
    | (go_at_call 15; refine (bits_no _ _ HB.out).mono ?_; rintro e w1 ⟨rfl, hw1⟩; obtain rfl : w = w1 := hw1.symm)
    | fail)
  go_ret2
  exact ⟨rfl, rfl⟩

def csum (f g : Nat → Nat) : Nat → Nat
  | 0 => 0
  | k + 1 => csum f g k + f k * g k
theorem csum_le (f g : Nat → Nat) (m : Nat) (k : Nat) (h : ∀ i, i < k → f i * g i ≤ m) : csum f g k ≤ k * m := by
  induction k with
  | zero => exact Nat.zero_le _
  | succ k ih =>
    have h1 := ih (fun i hi => h i (by omega))
    have h2 := h k (by omega)
    show csum f g k + f k * g k ≤ (k + 1) * m
    rw [Nat.succ_mul]; omega
set_option maxRecDepth 100000 in
set_option maxHeartbeats 8000000 in
theorem cost_any (vw vx : Value) (W X : List Nat) (w : World) (hv : NumsAt w vw W) (hx : IntsAt w vx X) (hl : W.length ≤ 512) (hW : ∀ x ∈ W, x ≤ 1099511627776) (hXl : X.length = W.length) (hX : ∀ s, s < W.length → wt X s ≤ 15 ∧ (0 < wt W s → 1 ≤ wt X s)) :
    Calls Tryd.prog 10 #[vw, vx] w fun e w' => e = .returned (.tuple #[.int .u64 (csum (wt W) (wt X) W.length : Nat), .int .i64 0]) ∧ w' = w := by
  have HA := Lib.hid (alphabet_any vw W w hv hl hW)
  obtain ⟨aw, cw, rfl, _, hcw⟩ := hv
  obtain ⟨ax, cx, rfl, _, hcx⟩ := hx
  have HC : Hid (∀ s, s < W.length → ∃ (x : Addr) (g u y : Nat), aw = some x ∧ ax = some ⟨g, 0, none⟩ ∧ w.cell? (x.add s) = some (.int .u64 (u : Nat)) ∧ w.cell? ⟨g, s, none⟩ = some (.int .i64 (y : Nat)) ∧ u = wt W s ∧ y = wt X s ∧ u ≤ 1099511627776 ∧ y ≤ 15 ∧ (y = 0 → u = 0) ∧ u * y ≤ 16492674416640) := fun s hs => by
    obtain ⟨x, h1, h2⟩ := hcw s hs
    obtain ⟨g, h3, h4⟩ := hcx s (by omega)
    have e1 : wt W s = W[s] := by unfold wt; simp [List.getD, hs]
    have e2 : wt X s = X[s]'(by omega) := by unfold wt; simp [List.getD, show s < X.length by omega]
    have h5 := hX s hs
    have h6 := hW W[s] (List.getElem_mem hs)
    refine ⟨x, g, W[s], X[s]'(by omega), h1, h3, h2, h4, e1.symm, e2.symm, h6, by omega, fun h0 => by have := h5.2; omega, ?_⟩
    exact Nat.le_trans (Nat.mul_le_mul h6 (by omega : X[s]'(by omega) ≤ 15)) (by decide)
  have HS : Hid (∀ k, k ≤ W.length → csum (wt W) (wt X) k ≤ 8444249301319680) := fun k hk => by
    have h1 := csum_le (wt W) (wt X) 16492674416640 k (fun i hi => by
      obtain ⟨x, g, u, y, _, _, _, _, h1, h2, _, _, _, h3⟩ := HC.out i (by omega)
      rw [← h1, ← h2]; exact h3)
    have h2 : k * 16492674416640 ≤ 512 * 16492674416640 := Nat.mul_le_mul_right _ (by omega)
    omega
  rw [hXl]
  clear hcw hcx hX hW hXl
  obtain ⟨n0, hn0⟩ : ∃ n0, n0 = W.length := ⟨_, rfl⟩
  rw [← hn0] at HA HC HS hl ⊢
  have hl' : (n0 : Int) ≤ 512 := by omega
  clear hn0
  go_enter Tryd.func10, Tryd.ntmps10
  go_wp2_with (first
    | (go_at_call 14; refine HA.out.mono ?_; rintro e w1 ⟨rfl, hw1⟩; obtain rfl : w = w1 := hw1.symm)
    | fail)
  go_loopw [6, 22] (fun sv iv wr => ∃ k : Nat, iv = .int .i64 (k : Nat) ∧ k ≤ n0 ∧ sv = .int .u64 (csum (wt W) (wt X) k : Nat) ∧ wr = w) (fun _ iv _ => n0 - (intOf iv).toNat)
  case atStart => exact ⟨0, rfl, Nat.zero_le _, rfl, rfl⟩
  case round =>
    obtain ⟨k, rfl, hk, rfl, hwr⟩ := hrel
    obtain rfl : w = wr := hwr.symm
    by_cases hlt : k < n0
    · obtain ⟨x, g, u, y, rfl, rfl, c1, c2, hu, hy, hub, hyb, hy0, hm⟩ := HC.out k hlt
      have hS := HS.out k (by omega)
      have hS1 : csum (wt W) (wt X) (k + 1) = csum (wt W) (wt X) k + u * y := by rw [hu, hy]; rfl
      obtain ⟨sm, hsm⟩ : ∃ sm, sm = csum (wt W) (wt X) k := ⟨_, rfl⟩
      obtain ⟨pr, hpr⟩ : ∃ pr, pr = u * y := ⟨_, rfl⟩
      rw [← hpr] at hm hS1
      rw [← hsm] at hS hS1 ⊢
      have Hpr : Hid ((u : Int) * (y : Int) = (pr : Int)) := by show _ = _; rw [hpr]; exact (Int.natCast_mul _ _).symm
      have hw0 : IntKind.u64.wrap (y : Int) = (y : Int) := wrap64u_in _ (by omega) (by omega)
      have hw1 : IntKind.u64.wrap ((u : Int) * (y : Int)) = (pr : Int) := by rw [Hpr.out]; exact wrap64u_in _ (by omega) (by omega)
      have hw2 : IntKind.u64.wrap ((sm : Int) + (pr : Int)) = ((sm + pr : Nat) : Int) := by rw [wrap64u_in _ (by omega) (by omega)]; omega
      have hki : (k : Int) < (n0 : Int) := by omega
      have hyi : (y : Int) ≤ 15 := by omega
      have hy1 : (0 : Int) ≤ (y : Int) := by omega
      have HS1 := Lib.hid hS1
      clear hsm hpr hu hy hS1 hm hub
      by_cases hz : y = 0
      · have hu0 := hy0 hz
        subst hz
        subst hu0
        clear hy0
        go_wp2_with fail
        have hp0 : pr = 0 := by have := Hpr.out; simp at this; omega
        exact ⟨⟨k + 1, by rw [Int.natCast_add]; rfl, by omega, by rw [HS1.out, hp0]; rfl, trivial⟩, by simp [intOf]; omega⟩
      · have hzi : ((y : Int) == 0) = false := by simpa using hz
        clear hy0
        go_wp2_with fail
        exact ⟨⟨k + 1, by rw [Int.natCast_add]; rfl, by omega, by rw [HS1.out, Int.natCast_add], trivial⟩, by simp [intOf]; omega⟩
    · obtain rfl : k = n0 := by omega
      go_wp2_with fail
      go_ret2
      exact ⟨rfl, rfl⟩

set_option maxRecDepth 100000 in
set_option maxHeartbeats 8000000 in
/-- lengths that are none -/
theorem cost_none (vw : Value) (W : List Nat) (w : World) (hv : NumsAt w vw W) (hl : W.length ≤ 512) (h1 : 0 < W.length) (hW : ∀ x ∈ W, x ≤ 1099511627776) :
    Calls Tryd.prog 10 #[vw, .slice none 0 0] w fun e w' => e = .returned (.tuple #[.int .u64 0, .int .i64 5]) ∧ w' = w := by
  have HA := Lib.hid (alphabet_any vw W w hv hl hW)
  obtain ⟨aw, cw, rfl, _, hcw⟩ := hv
  clear hcw hW
  generalize W.length = n0 at *
  have hl' : (n0 : Int) ≤ 512 := by omega
  have h1' : 0 < (n0 : Int) := by omega
  go_enter Tryd.func10, Tryd.ntmps10
  go_wp2_with (first
    | (go_at_call 14; refine HA.out.mono ?_; rintro e w1 ⟨rfl, hw1⟩; obtain rfl : w = w1 := hw1.symm)
    | fail)
  go_ret2
  exact ⟨rfl, rfl⟩
end Go.Proofs.YtidmmcgnghdfdaaDoor
