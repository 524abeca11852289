/- What wringerref03's SameOne does at two lists that are one. -/
import Derived.Test.YtihohljhjdmamaaNums
import Derived.Deep.QuietTactic
import Derived.BigQuiet
import Derived.Handy
namespace Go.Proofs.Ytihohljhjdmamaa
open Go.RowKit
set_option linter.unusedVariables false

set_option maxRecDepth 100000 in
set_option maxHeartbeats 1000000 in
theorem less_same (w : World) (u v : Value) (xs : List Nat) (hu : NumsAt w u xs) (hv : NumsAt w v xs) :
    Calls Try.prog 30 #[u, v] w fun e w' => e = .returned (.bool false) ∧ ∃ n, w' = w.drewN n := by
  obtain ⟨a, ca, rfl, hm, ha⟩ := hu
  obtain ⟨b, cb, rfl, _, hb⟩ := hv
  unfold maxLen at hm
  obtain ⟨n, hn⟩ : ∃ n, n = xs.length := ⟨_, rfl⟩
  rw [← hn] at hm ⊢
  have Hn := Lib.hid hn
  clear hn
  go_enter Try.func30, Try.ntmps30
  go_wp2
  go_loopw [5] (fun iv wr => ∃ i : Nat, iv = .int .i64 (i : Nat) ∧ i ≤ n ∧ ∃ m, wr = w.drewN m) (fun iv _ => n - (intOf iv).toNat)
  case atStart => exact ⟨0, rfl, Nat.zero_le _, 0, rfl⟩
  case round =>
    obtain ⟨i, rfl, hi, m, rfl⟩ := hrel
    by_cases hlt : i < n
    · obtain ⟨x, rfl, hx⟩ := ha i (by have := Hn.out; omega)
      obtain ⟨y, rfl, hy⟩ := hb i (by have := Hn.out; omega)
      clear ha hb
      generalize xs[i]'(by have := Hn.out; omega) = c at hx hy
      go_wp2_with fail
      go_quiet (fail)
      go_wp2_with fail
      exact ⟨⟨i + 1, by rw [Int.natCast_add]; rfl, by omega, _, rfl⟩, by simp [intOf]; omega⟩
    · clear ha hb
      go_wp2_with fail
      go_ret
      exact ⟨rfl, _, rfl⟩

set_option maxRecDepth 100000 in
theorem same_one (w : World) (u v : Value) (xs : List Nat) (hu : NumsAt w u xs) (hv : NumsAt w v xs) :
    Calls Try.prog 13 #[u, v] w fun e w' => e = .returned (.bool true) ∧ ∃ n, w' = w.drewN n := by
  have HL := Lib.hid (fun n => less_same (w.drewN n) u v xs (hu.drewN n) (hv.drewN n))
  have HR := Lib.hid (fun n => less_same (w.drewN n) v u xs (hv.drewN n) (hu.drewN n))
  have HL0 := Lib.hid (less_same w u v xs hu hv)
  clear hu hv
  go_enter Try.func13, Try.ntmps13
  go_wp2_with fail
  refine HL0.out.mono ?_
  rintro e w1 ⟨rfl, n, rfl⟩
  simp only []
  go_wp2_with fail
  refine (HR.out n).mono ?_
  rintro e w1 ⟨rfl, n2, rfl⟩
  simp only []
  go_wp2_with fail
  go_ret
  exact ⟨rfl, n + n2, rfl⟩
end Go.Proofs.Ytihohljhjdmamaa
