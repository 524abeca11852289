/- What slices.Backward hands on, over levels of items. -/
import Derived.Test.YtidmmcgnghdfdaaDoorRange
namespace Go.Proofs.YtidmmcgnghdfdaaDoor
open Go.RowKit Go.Shelf SortPlain PackPlain
set_option linter.unusedVariables false
attribute [local go_sem] Oper.semAt_some

set_option maxHeartbeats 1000000 in
theorem backward_in (F : Fence) (n : Nat) (h : F.fn 39) (hro : F.round = none) (a : Option Addr) (len cap : Nat) (w : World) :
    CallsIn F n Tryd.prog 39 #[.slice a len cap] w fun e w' => e = .returned (.func (.func 51) #[] #[.pointer (some ⟨w.heap.size, 0, none⟩)]) ∧ w' = w.alloc (.cells #[.slice a len cap] 51) := by
  refine callsIn_of_wp Tryd.func39 rfl h ?_ hro
  simp only [Tryd.ntmps39, List.size_toArray, List.length_cons, List.length_nil, Nat.reduceAdd, Nat.reduceSub, Array.replicate_succ, Array.replicate_zero, List.push_toArray, List.append_toArray, List.nil_append, List.cons_append]
  gi_wp2
  go_ret
  exact ⟨rfl, rfl⟩

set_option maxRecDepth 100000 in
set_option maxHeartbeats 2000000 in
theorem backward1_in (F : Fence) (n : Nat) (h : F.fn 51) (hro : F.round = none) (hn : 1 ≤ n) (l Bs b m cap : Nat) (S : Nat → Prop) (vs : Nat → Value) (hm : m ≤ 16) (hb : S b) (hBs0 : S Bs) (J : Nat → World → Prop)
    (hY : ∀ k W1, J k W1 → k < m → YieldAt F (n - 1) Tryd.prog l #[.int .i64 ((m - 1 - k : Nat) : Int), vs (m - 1 - k)] W1 fun e W' => e = .returned (.bool true) ∧ J (k + 1) W' ∧ SameOn S W1 W')
    (W : World) (hBs : W.cell? ⟨Bs, 0, none⟩ = some (.slice (some ⟨b, 0, none⟩) m cap)) (hc : ∀ j, j < m → W.cell? ⟨b, j, none⟩ = some (vs j)) (h0 : J 0 W) :
    CallsIn F n Tryd.prog 51 #[.func (.yield l) #[] #[], .pointer (some ⟨Bs, 0, none⟩)] W fun e W' => (∃ v, e = .returned v) ∧ J m W' := by
  refine callsIn_of_wp Tryd.func51 rfl h ?_ hro
  simp only [Tryd.ntmps51, List.size_toArray, List.length_cons, List.length_nil, Nat.reduceAdd, Nat.reduceSub, Array.replicate_succ, Array.replicate_zero, List.push_toArray, List.append_toArray, List.nil_append, List.cons_append]
  have hm' : (m : Int) ≤ 16 := by omega
  gi_wp2
  gi_loopw [3] (fun i wr => ∃ (k : Nat) (I : Int), i = .int .i64 I ∧ Hid (I = (m : Int) - 1 - (k : Int)) ∧ k ≤ m ∧ J k wr ∧ SameOn S W wr) (fun i _ => (intOf i + 1).toNat)
  case atStart => exact ⟨0, _, rfl, by show _ = _; omega, Nat.zero_le _, h0, SameOn.refl _ _⟩
  case round =>
    obtain ⟨k, I, rfl, hI, hk, hJ, hnx⟩ := hrel
    by_cases hlt : k < m
    · obtain ⟨j, hj⟩ : ∃ j, j = m - 1 - k := ⟨_, rfl⟩
      have hIj : I = (j : Int) := by have := hI.out; omega
      subst hIj
      obtain ⟨fn, tmps, assign, body, hy, hR⟩ := hY k wr hJ hlt
      rw [← hj] at hy
      have hc1 : wr.cell? ⟨Bs, 0, none⟩ = some (.slice (some ⟨b, 0, none⟩) m cap) := hnx.cell hBs0 hBs
      have hc2 : wr.cell? ⟨b, j, none⟩ = some (vs j) := hnx.cell hb (hc j (by omega))
      have hjm : (j : Int) < (m : Int) := by omega
      have hj0 : (0 : Int) ≤ (j : Int) := by omega
      have Hj := Lib.hid hj
      have HY := Lib.hid hY
      have Hc := Lib.hid hc
      have HBs := Lib.hid hBs
      have Hnx := Lib.hid hnx
      clear hj hY hc hBs hnx hI
      gi_wp2
      refine hR.mono ?_
      rintro e W3 ⟨rfl, hJ3, hk3⟩
      gi_wp2
      go_roundw
      case rel => exact ⟨k + 1, (j : Int) - 1, rfl, by show _ = _; have := Hj.out; omega, by omega, hJ3, Hnx.out.trans hk3⟩
      case measure => simp [intOf]
    · obtain rfl : k = m := by omega
      have hI1 : I = -1 := by have := hI.out; omega
      subst hI1
      clear hI
      gi_wp2
      go_end0
      exact ⟨⟨_, rfl⟩, hJ⟩
end Go.Proofs.YtidmmcgnghdfdaaDoor
