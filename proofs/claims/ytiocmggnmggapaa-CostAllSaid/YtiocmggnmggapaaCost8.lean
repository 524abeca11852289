/- A sort's runs. -/
import Derived.Test.YtiocmggnmggapaaCost7
namespace Go.Proofs.Ytiocmggnmggapaa
open Go.RowKit CostPlain
set_option linter.unusedVariables false

theorem run_makeNums (n : Nat) (hn : n ≤ 1000000) (W : World) :
    (Instr.makeSlice 34 (.int .i64 (n : Int)) (.int .i64 (n : Int))).run Try.prog W = .ok (.slice (some ⟨W.heap.size, 0, none⟩) n n) (W.alloc (.cells (Array.replicate n (.int .u64 0)) 22)) := by
  obtain ⟨i, hi, hz0, hz1, hz2⟩ := info_parts elemNums.info
  have hr := run_make (P := Try.prog) W 34 22 i _ Try.underlying34 hi hz0 .i64 .i64 n n (by omega) (by omega) (by rw [hz2]; omega) (by omega)
  simp only [Int.toNat_natCast] at hr
  rw [hr, hz1]
  congr 3
  apply Array.ext
  · simp [madeCells]
  · intro j h1 h2
    simp [madeCells]
    show #[Value.int .u64 0][j % 1]! = _
    rw [Nat.mod_one]; rfl
/-- the row of the counted symbols -/
def urow (n : Nat) (f : Nat → Nat) : Array Value := (ncells ((List.range n).map f)).toArray
theorem urow_zero (n : Nat) : Array.replicate n (Value.int .u64 0) = urow n (fun _ => 0) := by
  apply Array.ext
  · simp [urow, ncells]
  · intro j h1 h2; simp [urow, ncells]
theorem urow_get (n : Nat) (f : Nat → Nat) (i : Nat) (h : i < n) : (urow n f)[i]? = some (.int .u64 (f i : Nat)) := by simp [urow, ncells, h]
theorem urow_set (n : Nat) (f f' : Nat → Nat) (i : Nat) (h : i < n) (v : Nat) (hv : f' i = v) (ho : ∀ j, j ≠ i → f' j = f j) : (urow n f).setIfInBounds i (.int .u64 (v : Nat)) = urow n f' := by
  apply Array.ext_getElem?
  intro j
  rw [Array.getElem?_setIfInBounds]
  by_cases hj : i = j
  · subst hj
    rw [if_pos rfl, if_pos (by simp [urow, ncells, h]), urow_get n f' i h, hv]
  · rw [if_neg hj]
    rcases Nat.lt_or_ge j n with h1 | h1
    · rw [urow_get _ _ _ h1, urow_get _ _ _ h1, ho j (fun e => hj e.symm)]
    · simp [urow, ncells, h1]
theorem NumsAt.of_urow {W : World} {G n : Nat} {f : Nat → Nat} {t : TypeId} (h : W.heap[G]? = some (.cells (urow n f) t (0, 0))) (hn : n ≤ 65536) : NumsAt W (.slice (some ⟨G, 0, none⟩) n n) ((List.range n).map f) :=
  ⟨some ⟨G, 0, none⟩, n, by simp, by simp [maxLen]; omega, fun i hi => ⟨_, rfl, by rw [add_plain, Nat.zero_add, row_cell h i _ (urow_get n f i (by simpa using hi))]; simp⟩⟩


def frs (m n c : Nat) : List Nat := (List.range m).map (fun i => min (c - i * n) n)
set_option maxRecDepth 100000 in
set_option maxHeartbeats 4000000 in
theorem first_any (m n c : Nat) (hm : m ≤ 65536) (hn : 1 ≤ n) (hn2 : n ≤ 65536) (hc : c ≤ 65536) (w : World) :
    Calls Try.prog 28 #[.int .i64 (m : Nat), .int .i64 (n : Nat), .int .u64 (c : Nat)] w fun e w' => e = .returned (.slice (some ⟨w.heap.size, 0, none⟩) m m) ∧ w'.heap[w.heap.size]? = some (.cells (urow m (fun i => min (c - i * n) n)) 22 (0, 0)) ∧ Hid (w.grownBy w' none) := by
  have hmk := run_makeNums m (by omega)
  simp only [urow_zero] at hmk
  have hm8 : (m : Int) ≤ 65536 := by omega
  have hn8 : (n : Int) ≤ 65536 := by omega
  have hn1 : 1 ≤ (n : Int) := by omega
  have hwn : IntKind.u64.wrap (n : Int) = (n : Int) := wrap64u_in _ (by omega) (by omega)
  go_enter Try.func28, Try.ntmps28
  go_wp2_with fail
  clear hmk
  have q0 := Lib.hid (heap_alloc_new w (.cells (urow m (fun _ => 0)) 22))
  have g0 := Lib.hid (World.grownBy_alloc w (.cells (urow m (fun _ => 0)) 22) none)
  generalize w.alloc (.cells (urow m (fun _ => 0)) 22) = w1 at q0 g0 ⊢
  obtain ⟨G, hG⟩ : ∃ G, G = w.heap.size := ⟨_, rfl⟩
  rw [← hG] at q0 ⊢
  have HG := Lib.hid hG
  clear hG
  go_loopw [2, 13] (fun cv iv wr => ∃ (k left : Nat), iv = .int .i64 (k : Nat) ∧ k ≤ m ∧ cv = .int .u64 (left : Nat) ∧ left ≤ c ∧ Hid (left = c - k * n) ∧ Hid (wr.heap[G]? = some (.cells (urow m (fun i => if i < k then min (c - i * n) n else 0)) 22 (0, 0))) ∧ Hid (w.grownBy wr none)) (fun _ iv _ => m - (intOf iv).toNat)
  case atStart => exact ⟨0, c, rfl, Nat.zero_le _, rfl, Nat.le_refl _, by show _ = _; simp, by show _ = _; rw [q0.out]; simp, g0⟩
  case round =>
    clear q0 g0
    obtain ⟨k, left, rfl, hk, rfl, hlc, hl, hr, hg⟩ := hrel
    by_cases hlt : k < m
    · obtain ⟨x, hx⟩ : ∃ x, x = min left n := ⟨_, rfl⟩
      have hmin : (if n < left then (n : Int) else (left : Int)) = (x : Int) := by split <;> omega
      have hxl : x ≤ left := by omega
      have Hl2 : Hid (left - x = c - (k + 1) * n) := by show _ = _; have := hl.out; rw [Nat.succ_mul]; omega
      have Hx : Hid (x = min (c - k * n) n) := by show _ = _; rw [hx, hl.out]
      have c1 := row_cell hr.out k _ (urow_get m _ k hlt)
      have c2 := row_free hr.out k
      have hki : (k : Int) < (m : Int) := by omega
      have hw1 : IntKind.u64.wrap ((left : Int) - (x : Int)) = ((left - x : Nat) : Int) := by rw [wrap64u_in _ (by omega) (by omega)]; omega
      clear hx
      go_wp2_with fail
      refine ⟨⟨k + 1, left - x, by rw [Int.natCast_add]; rfl, by omega, rfl, by omega, Hl2, ?_, grown_bel ((bel_grown hg.out (Nat.le_refl _)).grown (grown_setCell wr ⟨G, k, none⟩ _) hg.out.size (fun q e => by injection e with e; simp only at e; have := HG.out; omega)) none⟩, by simp [intOf] <;> omega⟩
      show _ = _
      rw [heap_setCell_same _ G k _ _ _ hr.out]
      congr 2
      refine urow_set m _ _ k hlt x (by rw [if_pos (Nat.lt_succ_self k)]; exact Hx.out.symm) (fun j hj => ?_)
      by_cases h : j < k
      · rw [if_pos h, if_pos (by omega)]
      · rw [if_neg h, if_neg (by omega)]
    · obtain rfl : k = m := by omega
      go_wp2_with fail
      go_ret
      rw [← HG.out]
      refine ⟨rfl, ?_, hg⟩
      rw [hr.out]
      congr 2
      unfold urow
      congr 2
      refine List.map_congr_left (fun i hi => ?_)
      rw [if_pos (List.mem_range.1 hi)]
end Go.Proofs.Ytiocmggnmggapaa
