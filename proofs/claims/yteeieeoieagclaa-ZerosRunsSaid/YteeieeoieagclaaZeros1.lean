/- What zeros' run.add does. -/
import Derived.Test.YteeieeoieagclaaRows
import Derived.Test.YteeieeoieagclaaKit
import Derived.Test.YteeieeoieagclaaZerosPlain
import Derived.Handy
import Derived.BigRegion
namespace Go.Proofs.Yteeieeoieagclaa
open Go.RowKit ZerosPlain
set_option linter.unusedVariables false

theorem set_self (cs : Array Value) (i : Nat) (v : Value) (h : cs[i]? = some v) : cs.setIfInBounds i v = cs := by
  obtain ⟨hi, h⟩ := Array.getElem?_eq_some_iff.1 h
  apply Array.ext_getElem?
  intro j
  rw [Array.getElem?_setIfInBounds]
  split
  · rename_i e
    subst e
    simp [hi, h]
  · rfl

set_option maxRecDepth 100000 in
set_option maxHeartbeats 1000000 in
theorem add_run (g o : Nat) (cs : Array Value) (t : TypeId) (n b d : Nat) (w : World) (hb : w.heap[g]? = some (.cells cs t (0, 0))) (h1 : cs[o]? = some (.int .u64 (n : Nat))) (h2 : cs[o + 1]? = some (.int .u64 (b : Nat)))
    (hn : n ≤ 65537) (hd : d < 2) (hb64 : b < 18446744073709551616) :
    Calls Try.prog 25 #[.pointer (some ⟨g, o, none⟩), .int .u64 (d : Nat)] w fun e w' => ∃ n' : Nat, (if 65536 < nextBy b then n' = n ∧ e = .returned (.bool false) else n' = n + (d + 1) * nextBy b ∧ e = .returned (.bool (decide (n' ≤ 65536)))) ∧
      w'.heap[g]? = some (.cells ((cs.setIfInBounds (o + 1) (.int .u64 (nextBy b : Nat))).setIfInBounds o (.int .u64 (n' : Nat))) t (0, 0)) ∧ w.grownBy w' (some g) := by
  have c0 : w.cell? ⟨g, o, none⟩ = some (.int .u64 (n : Nat)) := by rw [cell_of_row _ _ _ _ _ _ hb, h1]
  have c1 : w.cell? ⟨g, o + 1, none⟩ = some (.int .u64 (b : Nat)) := by rw [cell_of_row _ _ _ _ _ _ hb, h2]
  have f0 : w.frozen? ⟨g, o, none⟩ = false := frozen_of_row _ _ _ _ _ hb
  have f1 : w.frozen? ⟨g, o + 1, none⟩ = false := frozen_of_row _ _ _ _ _ hb
  have hw : IntKind.u64.wrap ((b : Int) * 2) = ((b * 2 % 18446744073709551616 : Nat) : Int) := by rw [IntKind.wrap_u64]; omega
  obtain ⟨y, hy⟩ : ∃ y, y = b * 2 % 18446744073709551616 := ⟨_, rfl⟩
  rw [← hy] at hw
  have hnb : nextBy b = max 1 y := by unfold nextBy; rw [hy]
  obtain ⟨z, hz⟩ : ∃ z, z = nextBy b := ⟨_, rfl⟩
  rw [← hz] at hnb ⊢
  have Hhb := Lib.hid hb
  have Hh1 := Lib.hid h1
  clear hy hz hb h1 h2
  have hnd : (n : Int) ≤ 65537 := by omega
  by_cases hbig : 65536 < y
  · have hzy : z = y := by omega
    subst hzy
    have hy1 : 1 < (z : Int) := by omega
    have hy2 : 65536 < (z : Int) := by omega
    clear hnb
    simp only [if_pos hbig]
    go_enter Try.func25, Try.ntmps25
    go_wp2_with fail
    go_ret
    refine ⟨n, ⟨rfl, rfl⟩, ?_, grown_setCell w ⟨g, o + 1, none⟩ _⟩
    have h3 := heap_setCell_same w g (o + 1) cs t (.int .u64 (z : Nat)) Hhb.out
    rw [set_self _ _ _ (by rw [Array.getElem?_setIfInBounds_ne (by omega)]; exact Hh1.out)]
    exact h3
  · by_cases hsm : 1 < y
    · have hzy : z = y := by omega
      subst hzy
      have hy1 : 1 < (z : Int) := by omega
      have hy2 : (z : Int) ≤ 65536 := by omega
      clear hnb
      simp only [if_neg hbig]
      have hle : (d + 1) * z ≤ 2 * 65536 := Nat.mul_le_mul (by omega) (by omega)
      have hmul : (((d : Int) + 1) * (z : Int)) = (((d + 1) * z : Nat) : Int) := by rw [Int.natCast_mul, Int.natCast_add]; rfl
      obtain ⟨q, hq⟩ : ∃ q, q = (d + 1) * z := ⟨_, rfl⟩
      rw [← hq] at hle hmul ⊢
      have hp1 : IntKind.u64.wrap (((d : Int) + 1) * (z : Int)) = (q : Int) := by rw [hmul]; exact wrap64u_in _ (by omega) (by omega)
      have hp2 : IntKind.u64.wrap ((n : Int) + (q : Int)) = ((n + q : Nat) : Int) := by rw [← Int.natCast_add]; exact wrap64u_in _ (by omega) (by omega)
      obtain ⟨s, hs⟩ : ∃ s, s = n + q := ⟨_, rfl⟩
      rw [← hs] at hp2
      have Hs := Lib.hid hs
      clear hq hs hmul
      go_enter Try.func25, Try.ntmps25
      go_wp2_with fail
      go_region
      go_wp2_with fail
      go_ret
      have h3 := heap_setCell_same w g (o + 1) cs t (.int .u64 (z : Nat)) Hhb.out
      have h4 := heap_setCell_same _ g o _ t (.int .u64 (s : Nat)) h3
      refine ⟨s, ⟨Hs.out, by simp; omega⟩, h4, grown_trans (grown_trans (grown_setCell w ⟨g, o + 1, none⟩ _) (grown_setCell _ ⟨g, o, none⟩ _)) (grown_drew _ _)⟩
    · have hzy : z = 1 := by omega
      subst hzy
      have hy1 : ¬ 1 < (y : Int) := by omega
      clear hnb hbig
      simp only [if_neg (show ¬ 65536 < 1 by decide)]
      obtain ⟨s, hs⟩ : ∃ s, s = n + (d + 1) * 1 := ⟨_, rfl⟩
      have hp2 : IntKind.u64.wrap ((n : Int) + ((d : Int) + 1)) = (s : Int) := by
        rw [hs, wrap64u_in _ (by omega) (by omega)]; omega
      have Hs := Lib.hid hs
      clear hs
      go_enter Try.func25, Try.ntmps25
      go_wp2_with fail
      go_region
      go_wp2_with fail
      go_ret
      have h3 := heap_setCell_same w g (o + 1) cs t (.int .u64 1) Hhb.out
      have h4 := heap_setCell_same _ g o _ t (.int .u64 (s : Nat)) h3
      refine ⟨s, ⟨Hs.out, by simp; omega⟩, h4, grown_trans (grown_trans (grown_setCell w ⟨g, o + 1, none⟩ _) (grown_setCell _ ⟨g, o, none⟩ _)) (grown_drew _ _)⟩
end Go.Proofs.Yteeieeoieagclaa
