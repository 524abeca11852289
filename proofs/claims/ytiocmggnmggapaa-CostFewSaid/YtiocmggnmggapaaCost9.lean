/- The files of a sort. -/
import Derived.Test.YtiocmggnmggapaaCost8
namespace Go.Proofs.Ytiocmggnmggapaa
open Go.RowKit CostPlain
set_option linter.unusedVariables false

theorem mrgL_length (k : Nat) (l : List Nat) : (mrgL k l).length = (l.length + k - 1) / k := by simp [mrgL]
theorem mrgL_lt {k : Nat} {l : List Nat} (h : k < l.length) (hk : 2 ≤ k) : (mrgL k l).length < l.length := by
  rw [mrgL_length, Nat.div_lt_iff_lt_mul (by omega)]
  have : l.length * 2 ≤ l.length * k := Nat.mul_le_mul_left _ hk
  omega
/-- the lists of files, but for the last one -/
def fls (k : Nat) (l : List Nat) : List (List Nat) := if h : k < l.length ∧ 2 ≤ k then l :: fls k (mrgL k l) else [l]
termination_by l.length
decreasing_by exact mrgL_lt h.1 h.2
theorem fls_step {k : Nat} {l : List Nat} (h : k < l.length) (hk : 2 ≤ k) : fls k l = l :: fls k (mrgL k l) := by rw [fls, dif_pos ⟨h, hk⟩]
theorem fls_stop {k : Nat} {l : List Nat} (h : l.length ≤ k) : fls k l = [l] := by rw [fls, dif_neg (by omega)]
def files (b wd : Int) (c : Nat) : List (List Nat) := if mnC b wd c = 0 then fls (fnN b) (frs (mnN b wd c) (szN b wd) c) ++ [[c]] else []
theorem chs_take_sum (l : List Nat) (k : Nat) (hk : 1 ≤ k) : ∀ j, ((List.range j).map (chs l k)).sum = (l.take (j * k)).sum
  | 0 => by simp
  | j + 1 => by
    rw [List.range_succ, List.map_append, List.sum_append, chs_take_sum l k hk j]
    simp only [List.map_cons, List.map_nil, List.sum_cons, List.sum_nil, Nat.add_zero]
    unfold chs
    rw [Nat.succ_mul, List.take_add, List.sum_append]
theorem mrgL_sum (k : Nat) (l : List Nat) (hk : 1 ≤ k) : (mrgL k l).sum = l.sum := by
  unfold mrgL
  rw [chs_take_sum l k hk, List.take_of_length_le]
  have h1 := Nat.div_add_mod (l.length + k - 1) k
  have h2 := Nat.mod_lt (l.length + k - 1) (show 0 < k by omega)
  rw [Nat.mul_comm] at h1
  omega
/-- v is a slice of its own block that holds the numbers l -/
def NAt (w : World) (v : Value) (l : List Nat) : Prop := ∃ g cap, v = .slice (some ⟨g, 0, none⟩) l.length cap ∧ l.length ≤ cap ∧ l.length ≤ 65536 ∧ ∀ i (hi : i < l.length), w.cell? ⟨g, i, none⟩ = some (.int .u64 (l[i] : Nat))
theorem NAt.grown {w w' : World} {v : Value} {l : List Nat} (h : NAt w v l) (hg : w.grownBy w' none) : NAt w' v l := by
  obtain ⟨g, cap, h1, h2, h3, h4⟩ := h
  exact ⟨g, cap, h1, h2, h3, fun i hi => hg.cell (h4 i hi) (by simp)⟩
theorem NAt.nums {w : World} {v : Value} {l : List Nat} (h : NAt w v l) : NumsAt w v l := by
  obtain ⟨g, cap, h1, h2, h3, h4⟩ := h
  exact ⟨some ⟨g, 0, none⟩, cap, h1, by unfold maxLen; omega, fun i hi => ⟨_, rfl, by rw [add_plain, Nat.zero_add]; exact h4 i hi⟩⟩
theorem NAt.past {V V' : World} {x : Value} {l : List Nat} (h : NAt V x l) {ga : Nat} {s : Value} (hc : V.cell? ⟨ga, 0, none⟩ = some s) (hs : ∀ n, s ≠ .int .u64 n) (hg : V.grownBy V' (some ga)) : NAt V' x l := by
  obtain ⟨g, cap, h1, h2, h3, h4⟩ := h
  refine ⟨g, cap, h1, h2, h3, fun i hi => hg.cell (h4 i hi) (fun e => ?_)⟩
  injection e with e
  simp only at e
  subst e
  have h5 := h4 0 (by omega)
  rw [hc] at h5
  injection h5 with h5
  exact hs _ h5
theorem NAt.slice {V : World} {x : Value} {l : List Nat} (h : NAt V x l) : ∀ n, x ≠ .int .u64 n := by
  obtain ⟨g, cap, rfl, _⟩ := h
  intro n e; cases e
theorem NAt.of_owns {w : World} {B : Nat} {v : Value} {l : List Nat} (h : Owns w B 22 v (ncells l)) (hl : l.length ≤ 65536) (hne : 0 < l.length) : NAt w v l := by
  rcases h.shape with ⟨rfl, h2⟩ | ⟨g, cap, rfl, h2, h3, h4, h5⟩
  · have := congrArg List.length h2
    rw [ncells_length] at this
    simp at this
    simp [this] at hne
  · rw [ncells_length] at h4
    refine ⟨g, cap, by rw [ncells_length], h4, hl, fun i hi => ?_⟩
    rw [h.cell i (by rw [ncells_length]; exact hi)]
    simp [ncells]
theorem NAt.of_urow {W : World} {G m : Nat} {f : Nat → Nat} {t : TypeId} (h : W.heap[G]? = some (.cells (urow m f) t (0, 0))) (hn : m ≤ 65536) : NAt W (.slice (some ⟨G, 0, none⟩) m m) ((List.range m).map f) :=
  ⟨G, m, by simp, by simp, by simpa using hn, fun i hi => by rw [row_cell h i _ (urow_get m f i (by simpa using hi))]; simp⟩
/-- the same, or nil -/
def NAt0 (w : World) (v : Value) (l : List Nat) : Prop := (v = .slice none 0 0 ∧ l = []) ∨ NAt w v l
theorem NAt0.grown {w w' : World} {v : Value} {l : List Nat} (h : NAt0 w v l) (hg : w.grownBy w' none) : NAt0 w' v l := h.imp id (fun h => h.grown hg)
theorem NAt0.nums {w : World} {v : Value} {l : List Nat} (h : NAt0 w v l) : NumsAt w v l := by
  rcases h with ⟨rfl, rfl⟩ | h
  · exact ⟨none, 0, rfl, Nat.zero_le _, fun i hi => by simp at hi⟩
  · exact h.nums
theorem NAt0.past {V V' : World} {x : Value} {l : List Nat} (h : NAt0 V x l) {ga : Nat} {s : Value} (hc : V.cell? ⟨ga, 0, none⟩ = some s) (hs : ∀ n, s ≠ .int .u64 n) (hg : V.grownBy V' (some ga)) : NAt0 V' x l := h.imp id (fun h => h.past hc hs hg)
theorem NAt0.slice {V : World} {x : Value} {l : List Nat} (h : NAt0 V x l) : ∀ n, x ≠ .int .u64 n := by
  rcases h with ⟨rfl, _⟩ | h
  · intro n e; cases e
  · exact h.slice
theorem elemLists : ElemOf Try.prog 23 34 (.slice none 0 0) 24 := ⟨Try.underlying23, by kernel_rfl, rfl⟩
end Go.Proofs.Ytiocmggnmggapaa
