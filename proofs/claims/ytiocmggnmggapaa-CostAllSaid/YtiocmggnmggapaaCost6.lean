/- What slices.Chunk hands on. -/
import Derived.Test.YtiocmggnmggapaaCost5
import Derived.Test.YtiocmggnmggapaaRangeN
import Derived.Sort.BigQuietIn
namespace Go.Proofs.Ytiocmggnmggapaa
open Go.RowKit Go.Shelf CostPlain
set_option linter.unusedVariables false
attribute [local go_sem] Oper.semAt_some

set_option maxRecDepth 100000 in
set_option maxHeartbeats 1000000 in
theorem chunk_in (F : Fence) (n : Nat) (h : F.fn 41) (hro : F.round = none) (a : Option Addr) (len cap fan : Nat) (hf : 1 ≤ fan) (hf2 : fan ≤ 1000) (w : World) :
    CallsIn F n Try.prog 41 #[.slice a len cap, .int .i64 (fan : Nat)] w fun e w' => e = .returned (.func (.func 45) #[] #[.pointer (some ⟨w.heap.size, 0, none⟩), .pointer (some ⟨w.heap.size + 1, 0, none⟩)]) ∧ w' = (w.alloc (.cells #[.slice a len cap] 34)).alloc (.cells #[.int .i64 (fan : Nat)] 3) := by
  have hf' : 1 ≤ (fan : Int) := by omega
  refine callsIn_of_wp Try.func41 rfl h ?_ hro
  simp only [Try.ntmps41, List.size_toArray, List.length_cons, List.length_nil, Nat.reduceAdd, Nat.reduceSub, Array.replicate_succ, Array.replicate_zero, List.push_toArray, List.append_toArray, List.nil_append, List.cons_append]
  gi_wp2
  go_ret
  exact ⟨rfl, rfl⟩

set_option maxRecDepth 100000 in
set_option maxHeartbeats 4000000 in
theorem chunk1_in (F : Fence) (n : Nat) (h : F.fn 45) (hro : F.round = none) (hn : 1 ≤ n) (l Bs Bn g m cap fan : Nat) (S : Nat → Prop) (hm : m ≤ 65536) (hcap : m ≤ cap) (hf : 1 ≤ fan) (hf2 : fan ≤ 1000) (hBs0 : S Bs) (hBn0 : S Bn) (J : Nat → World → Prop) (hD : ∀ k W1 q, J k W1 → J k (W1.drewN q))
    (hY : ∀ k W1, J k W1 → k * fan < m → YieldAt F (n - 1) Try.prog l #[.slice (some ⟨g, k * fan, none⟩) (min fan (m - k * fan)) (min fan (m - k * fan))] W1 fun e W' => e = .returned (.bool true) ∧ J (k + 1) W' ∧ SameOn S W1 W')
    (W : World) (hBs : W.cell? ⟨Bs, 0, none⟩ = some (.slice (some ⟨g, 0, none⟩) m cap)) (hBn : W.cell? ⟨Bn, 0, none⟩ = some (.int .i64 (fan : Nat))) (h0 : J 0 W) :
    CallsIn F n Try.prog 45 #[.func (.yield l) #[] #[], .pointer (some ⟨Bs, 0, none⟩), .pointer (some ⟨Bn, 0, none⟩)] W fun e W' => (∃ v, e = .returned v) ∧ J ((m + fan - 1) / fan) W' := by
  refine callsIn_of_wp Try.func45 rfl h ?_ hro
  simp only [Try.ntmps45, List.size_toArray, List.length_cons, List.length_nil, Nat.reduceAdd, Nat.reduceSub, Array.replicate_succ, Array.replicate_zero, List.push_toArray, List.append_toArray, List.nil_append, List.cons_append]
  have hm' : (m : Int) ≤ 65536 := by omega
  have hcap' : (m : Int) ≤ (cap : Int) := by omega
  have hf' : 1 ≤ (fan : Int) := by omega
  have hf2' : (fan : Int) ≤ 1000 := by omega
  gi_wp2
  gi_loopw [4] (fun i wr => ∃ (k p : Nat), i = .int .i64 (p : Nat) ∧ Hid (p = k * fan) ∧ p ≤ m + fan ∧ (∀ q, q < k → q * fan < m) ∧ J k wr ∧ SameOn S W wr) (fun i _ => m + fan - (intOf i).toNat)
  case atStart => exact ⟨0, 0, rfl, by show _ = _; simp, by omega, fun q hq => absurd hq (Nat.not_lt_zero _), h0, SameOn.refl _ _⟩
  case round =>
    obtain ⟨k, p, rfl, hp, hpm, hq, hJ, hnx⟩ := hrel
    have hc1 : wr.cell? ⟨Bs, 0, none⟩ = some (.slice (some ⟨g, 0, none⟩) m cap) := hnx.cell hBs0 hBs
    have hc2 : wr.cell? ⟨Bn, 0, none⟩ = some (.int .i64 (fan : Nat)) := hnx.cell hBn0 hBn
    by_cases hlt : p < m
    · have hpi : (p : Int) < (m : Int) := by omega
      have hpc : (p : Int) < (cap : Int) := by omega
      have HYk : Hid (∀ q, YieldAt F (n - 1) Try.prog l #[.slice (some ⟨g, p, none⟩) (min fan (m - p)) (min fan (m - p))] (wr.drewN q) fun e W' => e = .returned (.bool true) ∧ J (k + 1) W' ∧ SameOn S (wr.drewN q) W') := fun q => by
        have h1 := hY k (wr.drewN q) (hD k wr q hJ) (by rw [← hp.out]; exact hlt)
        rw [← hp.out] at h1
        exact h1
      obtain ⟨c, hc⟩ : ∃ c, c = min fan (m - p) := ⟨_, rfl⟩
      rw [← hc] at HYk
      have hc3 : c ≤ fan ∧ p + c ≤ m ∧ 1 ≤ c := by omega
      have hmin : (if m - p < fan then ((m - p : Nat) : Int) else (fan : Int)) = (c : Int) := by split <;> omega
      have HY := Lib.hid hY
      have HBs := Lib.hid hBs
      have HBn := Lib.hid hBn
      have Hnx := Lib.hid hnx
      have Hq := Lib.hid hq
      have HD := Lib.hid hD
      have Hc := Lib.hid hc
      obtain ⟨hcf, hpcm, hcc1⟩ := hc3
      have hpci : (p : Int) + (c : Int) ≤ (cap : Int) := by omega
      clear hY hBs hBn hnx hq hD hc
      gi_wp2
      refine wpIn_region_quiet_lit hro (by kernel_rfl) (by kernel_rfl) ?_
      repeat (gi_big_quiet_step (fail))
      refine wpQuietIn_nil ?_
      intro _ hw'
      obtain ⟨nq, hw''⟩ := hw'
      subst hw''
      try simp only [hmin]
      have hc1' : (wr.drewN nq).cell? ⟨Bs, 0, none⟩ = some (.slice (some ⟨g, 0, none⟩) m cap) := hc1
      have hc2' : (wr.drewN nq).cell? ⟨Bn, 0, none⟩ = some (.int .i64 (fan : Nat)) := hc2
      obtain ⟨fn, tmps, assign, body, hy, hR⟩ := HYk.out nq
      have hnx2 : SameOn S wr (wr.drewN nq) := ⟨Nat.le_refl _, fun _ _ _ => rfl⟩
      generalize wr.drewN nq = wq at *
      have hcp0 : (p : Int) + (c : Int) - (p : Int) = (c : Int) := by omega
      clear hc1 hc2
      gi_wp2
      refine hR.mono ?_
      rintro e W3 ⟨rfl, hJ3, hk3⟩
      have hc3' : W3.cell? ⟨Bn, 0, none⟩ = some (.int .i64 (fan : Nat)) := hk3.cell hBn0 hc2'
      gi_wp2
      go_roundw
      case rel => exact ⟨k + 1, p + fan, by rw [Int.natCast_add]; first | rfl | skip, by show _ = _; rw [hp.out, Nat.succ_mul], by omega, fun q hq => by rcases Nat.lt_or_eq_of_le (Nat.le_of_lt_succ hq) with h | h; exact Hq.out q h; rw [h, ← hp.out]; omega, hJ3, (Hnx.out.trans hnx2).trans hk3⟩
      case measure => simp [intOf]; omega
    · have hkM : Hid ((m + fan - 1) / fan = k) := by
        show _ = _
        refine Nat.div_eq_of_lt_le ?_ ?_
        · rcases Nat.eq_zero_or_pos k with h0 | h0
          · subst h0; simp
          · have h1 := hq (k - 1) (by omega)
            have h2 : k * fan = (k - 1) * fan + fan := by rw [← Nat.succ_mul]; congr 1; omega
            omega
        · have h1 := hp.out
          rw [Nat.succ_mul]; omega
      have hpi : (m : Int) ≤ (p : Int) := by omega
      clear hq hlt
      gi_wp2
      go_end0
      exact ⟨⟨_, rfl⟩, by rw [hkM.out]; exact hJ⟩
end Go.Proofs.Ytiocmggnmggapaa
