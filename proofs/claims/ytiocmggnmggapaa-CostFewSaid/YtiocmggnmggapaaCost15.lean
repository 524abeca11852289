/- Two lists of lists that are one. -/
import Derived.Test.YtiocmggnmggapaaCost14
namespace Go.Proofs.Ytiocmggnmggapaa
open Go.RowKit CostPlain
set_option linter.unusedVariables false

theorem ListsAt.shape {w : World} {v : Value} {ls : List (List Nat)} (h : ListsAt w v ls) : ∃ a cap, v = .slice a ls.length cap ∧ ls.length ≤ 65540 ∧ ∀ j, j < ls.length → ∃ g al cl, a = some ⟨g, 0, none⟩ ∧ w.cell? ⟨g, j, none⟩ = some (.slice al (ls.getD j []).length cl) ∧ (ls.getD j []).length ≤ 65536 ∧ ∀ i, i < (ls.getD j []).length → ∃ gl, al = some ⟨gl, 0, none⟩ ∧ w.cell? ⟨gl, i, none⟩ = some (.int .u64 ((ls.getD j []).getD i 0 : Nat)) := by
  rcases h with ⟨rfl, rfl⟩ | ⟨g, cap, vs, rfl, h2, h3, h4, h5⟩
  · exact ⟨none, 0, rfl, by simp, fun j hj => by simp at hj⟩
  · refine ⟨_, cap, rfl, h3, fun j hj => ?_⟩
    obtain ⟨a, c, e1, e2, e3⟩ := (h5 j hj).nums
    refine ⟨g, a, c, rfl, by rw [h4 j hj, e1], (h5 j hj).len, fun i hi => ?_⟩
    have h6 := h5 j hj
    rw [e1] at h6
    exact h6.num hi
theorem ListsAt.grown {w w' : World} {v : Value} {ls : List (List Nat)} (h : ListsAt w v ls) (hg : w.grownBy w' none) : ListsAt w' v ls := by
  rcases h with h | ⟨g, cap, vs, h1, h2, h3, h4, h5⟩
  · exact .inl h
  · exact .inr ⟨g, cap, vs, h1, h2, h3, fun j hj => hg.cell (h4 j hj) (by simp), fun j hj => (h5 j hj).grown hg⟩

set_option maxRecDepth 100000 in
set_option maxHeartbeats 4000000 in
theorem same_any (w : World) (u v : Value) (ls : List (List Nat)) (hu : ListsAt w u ls) (hv : ListsAt w v ls) :
    Calls Try.prog 14 #[u, v] w fun e w' => e = .returned (.bool true) ∧ ∃ n, w' = w.drewN n := by
  obtain ⟨a, ca, rfl, hl, ha⟩ := hu.shape
  obtain ⟨b, cb, rfl, _, hb⟩ := hv.shape
  obtain ⟨N, hN⟩ : ∃ N, N = ls.length := ⟨_, rfl⟩
  rw [← hN] at ha hb hl ⊢
  have HA := Lib.hid ha
  have HB := Lib.hid hb
  clear hN ha hb hu hv
  go_enter Try.func14, Try.ntmps14
  go_wp2
  go_loopw [14] (fun iv wr => ∃ j : Nat, iv = .int .i64 (j : Nat) ∧ j ≤ N ∧ ∃ m, wr = w.drewN m) (fun iv _ => N - (intOf iv).toNat)
  case atStart => exact ⟨0, rfl, Nat.zero_le _, 0, rfl⟩
  case round =>
    obtain ⟨j, rfl, hj, m, rfl⟩ := hrel
    by_cases hlt : j < N
    · obtain ⟨g, al, cl, rfl, ca1, hl6, hca⟩ := HA.out j hlt
      obtain ⟨g2, bl, dl, rfl, cb1, _, hcb⟩ := HB.out j hlt
      obtain ⟨n, hn⟩ : ∃ n, n = (ls.getD j []).length := ⟨_, rfl⟩
      rw [← hn] at ca1 cb1 hl6 hca hcb
      have HCA := Lib.hid hca
      have HCB := Lib.hid hcb
      have hjj : (j : Int) < (N : Int) := by omega
      clear hca hcb hn HA HB
      go_wp2_with fail
      go_quiet (fail)
      go_wp2_with fail
      go_loopw [33] (fun iv wr => ∃ i : Nat, iv = .int .i64 (i : Nat) ∧ i ≤ n ∧ ∃ m, wr = w.drewN m) (fun iv _ => n - (intOf iv).toNat)
      case atStart => exact ⟨0, rfl, Nat.zero_le _, _, rfl⟩
      case round =>
        obtain ⟨i, rfl, hi, m2, rfl⟩ := hrel
        by_cases hlt2 : i < n
        · obtain ⟨gl, rfl, cx⟩ := HCA.out i hlt2
          obtain ⟨gl2, rfl, cy⟩ := HCB.out i hlt2
          have hii : (i : Int) < (n : Int) := by omega
          generalize (ls.getD j []).getD i 0 = x at cx cy
          go_wp2_with fail
          go_quiet (fail)
          go_wp2_with fail
          exact ⟨⟨i + 1, by rw [Int.natCast_add]; rfl, by omega, _, rfl⟩, by simp [intOf]; omega⟩
        · obtain rfl : i = n := by omega
          go_wp2_with fail
          exact ⟨⟨j + 1, by rw [Int.natCast_add]; rfl, by omega, _, rfl⟩, by simp [intOf]; omega⟩
    · obtain rfl : j = N := by omega
      go_wp2_with fail
      go_ret
      exact ⟨rfl, _, rfl⟩
end Go.Proofs.Ytiocmggnmggapaa
