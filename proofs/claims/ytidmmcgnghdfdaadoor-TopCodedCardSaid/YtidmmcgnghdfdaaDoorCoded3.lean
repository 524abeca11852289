/- A book of codes: where it lies; what Of makes. -/
import Derived.Test.YtidmmcgnghdfdaaDoorPack5
import Derived.Test.YtidmmcgnghdfdaaDoorCodedPlain
import Derived.IntWalk
namespace Go.Proofs.YtidmmcgnghdfdaaDoor
open Go.RowKit SortPlain PackPlain CanonPlain
set_option linter.unusedVariables false

/-- the cells of a book -/
def bookRow (cf ff : Nat → Nat) (sv cv lv : Value) : Array Value := (((List.range 16).map fun i => Value.int .i64 (cf i : Nat)) ++ (((List.range 16).map fun i => Value.int .u64 (ff i : Nat)) ++ [sv, cv, lv])).toArray
theorem bookRow_size (cf ff : Nat → Nat) (sv cv lv : Value) : (bookRow cf ff sv cv lv).size = 35 := rfl
theorem bookRow_count (cf ff : Nat → Nat) (sv cv lv : Value) (i : Nat) (h : i < 16) : (bookRow cf ff sv cv lv)[i]? = some (.int .i64 (cf i : Nat)) := by
  unfold bookRow
  rw [List.getElem?_toArray, List.getElem?_append_left (by simpa using h)]
  simp [h]
theorem bookRow_first (cf ff : Nat → Nat) (sv cv lv : Value) (i : Nat) (h : i < 16) : (bookRow cf ff sv cv lv)[16 + i]? = some (.int .u64 (ff i : Nat)) := by
  unfold bookRow
  rw [List.getElem?_toArray, List.getElem?_append_right (by simp)]
  simp only [List.length_map, List.length_range, Nat.add_sub_cancel_left]
  rw [List.getElem?_append_left (by simpa using h)]
  simp [h]
theorem bookRow_syms (cf ff : Nat → Nat) (sv cv lv : Value) : (bookRow cf ff sv cv lv)[32]? = some sv := rfl
theorem bookRow_codes (cf ff : Nat → Nat) (sv cv lv : Value) : (bookRow cf ff sv cv lv)[33]? = some cv := rfl
theorem bookRow_lens (cf ff : Nat → Nat) (sv cv lv : Value) : (bookRow cf ff sv cv lv)[34]? = some lv := rfl
theorem bookRow_setCount (cf cf' ff : Nat → Nat) (sv cv lv : Value) (i v : Nat) (hi : i < 16) (hv : cf' i = v) (ho : ∀ j, j ≠ i → cf' j = cf j) : (bookRow cf ff sv cv lv).setIfInBounds i (.int .i64 (v : Nat)) = bookRow cf' ff sv cv lv := by
  unfold bookRow
  rw [List.setIfInBounds_toArray, List.set_append_left _ _ (by simpa using hi)]
  congr 2
  apply List.ext_getElem?
  intro j
  rw [List.getElem?_set]
  by_cases hj : i = j
  · subst hj
    simp [hi, hv]
  · rw [if_neg hj]
    rcases Nat.lt_or_ge j 16 with h | h
    · simp [h, ho j (fun e => hj e.symm)]
    · simp [h]
theorem bookRow_setFirst (cf ff ff' : Nat → Nat) (sv cv lv : Value) (i v : Nat) (hi : i < 16) (hv : ff' i = v) (ho : ∀ j, j ≠ i → ff' j = ff j) : (bookRow cf ff sv cv lv).setIfInBounds (16 + i) (.int .u64 (v : Nat)) = bookRow cf ff' sv cv lv := by
  unfold bookRow
  rw [List.setIfInBounds_toArray, List.set_append_right _ _ (by simp)]
  simp only [List.length_map, List.length_range, Nat.add_sub_cancel_left]
  rw [List.set_append_left _ _ (by simpa using hi)]
  congr 3
  apply List.ext_getElem?
  intro j
  rw [List.getElem?_set]
  by_cases hj : i = j
  · subst hj
    simp [hi, hv]
  · rw [if_neg hj]
    rcases Nat.lt_or_ge j 16 with h | h
    · simp [h, ho j (fun e => hj e.symm)]
    · simp [h]
theorem bookRow_setSyms (cf ff : Nat → Nat) (sv sv' cv lv : Value) : (bookRow cf ff sv cv lv).setIfInBounds 32 sv' = bookRow cf ff sv' cv lv := rfl

/-- how many codes of m bits there are, where those of l bits are counted up to i -/
def cntT (X : List Nat) (l i m : Nat) : Nat := if 1 ≤ m ∧ m < l then X.count m else if m = l then (X.take i).count l else 0
/-- the first codes, up to those of l bits -/
def fstT (X : List Nat) (l m : Nat) : Nat := if 1 ≤ m ∧ m ≤ l then fc X m else 0
theorem cntT_skip (X : List Nat) (l i : Nat) (hi : i < X.length) (h : X.getD i 0 ≠ l) : cntT X l (i + 1) = cntT X l i := by
  funext m
  unfold cntT
  rw [count_succ X l i hi, if_neg h, Nat.add_zero]
theorem cntT_hit (X : List Nat) (l i : Nat) (hi : i < X.length) (h : X.getD i 0 = l) : cntT X l (i + 1) l = (X.take i).count l + 1 ∧ ∀ m, m ≠ l → cntT X l (i + 1) m = cntT X l i m := by
  unfold cntT
  refine ⟨?_, fun m hm => ?_⟩
  · rw [if_neg (by omega), if_pos rfl, count_succ X l i hi, if_pos h]
  · rw [if_neg hm, if_neg hm]
theorem cntT_at (X : List Nat) (l i : Nat) : cntT X l i l = (X.take i).count l := by unfold cntT; rw [if_neg (by omega), if_pos rfl]
theorem cntT_next (X : List Nat) (l : Nat) (h1 : 1 ≤ l) : cntT X l X.length = cntT X (l + 1) 0 := by
  funext m
  unfold cntT
  rw [List.take_length, List.take_zero, List.count_nil]
  by_cases hm : m = l
  · subst hm
    rw [if_neg (by omega), if_pos rfl, if_pos (by omega)]
  · by_cases h2 : 1 ≤ m ∧ m < l
    · rw [if_pos h2, if_pos (by omega)]
    · rw [if_neg h2, if_neg hm, if_neg (by omega)]
      split <;> rfl
theorem fstT_set (X : List Nat) (l : Nat) (h1 : 1 ≤ l) : fstT X l l = fc X l ∧ ∀ m, m ≠ l → fstT X l m = fstT X (l - 1) m := by
  unfold fstT
  refine ⟨by rw [if_pos (by omega)], fun m hm => ?_⟩
  by_cases h2 : 1 ≤ m ∧ m ≤ l - 1
  · rw [if_pos h2, if_pos (by omega)]
  · rw [if_neg h2, if_neg (by omega)]
theorem codesTo_skip (X : List Nat) (l i : Nat) (h : X.getD i 0 ≠ l) : codesTo X l (i + 1) = codesTo X l i := by
  unfold codesTo
  refine List.map_congr_left (fun j hj => ?_)
  by_cases hji : j = i
  · subst hji
    by_cases h2 : 1 ≤ X.getD j 0 ∧ (X.getD j 0 < l ∨ X.getD j 0 = l ∧ j < j)
    · rw [if_pos h2, if_pos (by omega)]
    · rw [if_neg h2, if_neg (by omega)]
  · by_cases h2 : 1 ≤ X.getD j 0 ∧ (X.getD j 0 < l ∨ X.getD j 0 = l ∧ j < i)
    · rw [if_pos h2, if_pos (by omega)]
    · rw [if_neg h2, if_neg (by omega)]
theorem codesTo_next (X : List Nat) (l : Nat) : codesTo X l X.length = codesTo X (l + 1) 0 := by
  unfold codesTo
  refine List.map_congr_left (fun j hj => ?_)
  rw [List.mem_range] at hj
  by_cases h2 : 1 ≤ X.getD j 0 ∧ (X.getD j 0 < l ∨ X.getD j 0 = l ∧ j < X.length)
  · rw [if_pos h2, if_pos (by omega)]
  · rw [if_neg h2, if_neg (by omega)]
theorem codesTo_length (X : List Nat) (l i : Nat) : (codesTo X l i).length = X.length := by unfold codesTo; simp
theorem codesTo_hit (X : List Nat) (l i : Nat) (hi : i < X.length) (h : X.getD i 0 = l) (h1 : 1 ≤ l) (v : Nat) (hv : v = codeAt X i) : (ncells (codesTo X l i)).toArray.setIfInBounds i (.int .u64 (v : Nat)) = (ncells (codesTo X l (i + 1))).toArray := by
  rw [List.setIfInBounds_toArray]
  congr 1
  unfold ncells codesTo
  apply List.ext_getElem?
  intro j
  rw [List.getElem?_set]
  by_cases hj : i = j
  · subst hj
    rw [if_pos rfl, if_pos (by simpa using hi)]
    simp only [List.map_map, List.getElem?_map]
    rw [List.getElem?_range hi]
    simp only [Option.map_some, Function.comp]
    rw [if_pos (by omega), hv]
  · rw [if_neg hj]
    simp only [List.map_map, List.getElem?_map]
    rcases Nat.lt_or_ge j X.length with h2 | h2
    · rw [List.getElem?_range h2]
      simp only [Option.map_some, Function.comp]
      by_cases h2 : 1 ≤ X.getD j 0 ∧ (X.getD j 0 < l ∨ X.getD j 0 = l ∧ j < i)
      · rw [if_pos h2, if_pos (by omega)]
      · rw [if_neg h2, if_neg (by omega)]
    · rw [List.getElem?_eq_none (by simpa using h2)]
      rfl
theorem codesTo_zero (X : List Nat) : codesTo X 1 0 = List.replicate X.length 0 := by
  unfold codesTo
  apply List.ext_getElem?
  intro j
  rcases Nat.lt_or_ge j X.length with h | h
  · simp only [List.getElem?_map]
    rw [List.getElem?_range h, List.getElem?_replicate, if_pos h]
    simp only [Option.map_some]
    rw [if_neg (by omega)]
  · rw [List.getElem?_eq_none (by simpa using h), List.getElem?_eq_none (by simpa using h)]

/-- a book at work: its cells, its symbols and its codes -/
structure Mid (w : World) (n cp : Nat) (lv : Value) (b G B : Nat) (cf ff : Nat → Nat) (sv v : Value) (xs : List Value) (cs : Array Value) (W : World) : Prop where
  hB : B ≤ w.heap.size
  hb : B ≤ b
  hG : B ≤ G
  hne : G ≠ b
  below : Below B w W
  row : W.heap[b]? = some (.cells (bookRow cf ff sv (.slice (some ⟨G, 0, none⟩) n cp) lv) 96 (0, 0))
  own : Owns W B 3 v xs
  codes : W.heap[G]? = some (.cells cs 25 (0, 0))
theorem Mid.size {w : World} {n cp : Nat} {lv : Value} {b G B : Nat} {cf ff : Nat → Nat} {sv v : Value} {xs : List Value} {cs : Array Value} {W : World} (h : Mid w n cp lv b G B cf ff sv v xs cs W) : B ≤ W.heap.size := Nat.le_trans h.hB h.below.size
theorem Mid.neB {w : World} {n cp : Nat} {lv : Value} {b G B : Nat} {cf ff : Nat → Nat} {sv v : Value} {xs : List Value} {cs : Array Value} {W : World} (h : Mid w n cp lv b G B cf ff sv v xs cs W) : v.ownBlock ≠ some b := h.own.ne_row h.row (by decide)
theorem Mid.neG {w : World} {n cp : Nat} {lv : Value} {b G B : Nat} {cf ff : Nat → Nat} {sv v : Value} {xs : List Value} {cs : Array Value} {W : World} (h : Mid w n cp lv b G B cf ff sv v xs cs W) : v.ownBlock ≠ some G := h.own.ne_row h.codes (by decide)
theorem Mid.drewN {w : World} {n cp : Nat} {lv : Value} {b G B : Nat} {cf ff : Nat → Nat} {sv v : Value} {xs : List Value} {cs : Array Value} {W : World} (h : Mid w n cp lv b G B cf ff sv v xs cs W) (k : Nat) : Mid w n cp lv b G B cf ff sv v xs cs (W.drewN k) :=
  ⟨h.hB, h.hb, h.hG, h.hne, below_drewN h.below k, h.row, h.own.drewN k, h.codes⟩
theorem Mid.code {w : World} {n cp : Nat} {lv : Value} {b G B : Nat} {cf ff : Nat → Nat} {sv v : Value} {xs : List Value} {cs cs' : Array Value} {W : World} (h : Mid w n cp lv b G B cf ff sv v xs cs W) (i : Nat) (u : Value) (he : cs.setIfInBounds i u = cs') : Mid w n cp lv b G B cf ff sv v xs cs' (W.setCell ⟨G, i, none⟩ u) :=
  ⟨h.hB, h.hb, h.hG, h.hne, h.below.trans (below_grown (grown_setCell W ⟨G, i, none⟩ u) h.hG h.size), row_kept h.row (grown_setCell W ⟨G, i, none⟩ u) (fun e => h.hne (Option.some.inj e)), h.own.kept_of (grown_setCell W ⟨G, i, none⟩ u) (.inl h.neG), by rw [heap_setCell_same _ G i _ _ _ h.codes, he]⟩
theorem Mid.app {w : World} {n cp : Nat} {lv : Value} {b G B : Nat} {cf ff : Nat → Nat} {sv v v' : Value} {xs xs' : List Value} {cs : Array Value} {W W' : World} (h : Mid w n cp lv b G B cf ff sv v xs cs W) (ho : Owns W' B 3 v' xs') (hg : Grew W v W' v') : Mid w n cp lv b G B cf ff sv v' xs' cs W' :=
  ⟨h.hB, h.hb, h.hG, h.hne, h.below.trans (hg.below h.own h.size), hg.row h.row h.neB, ho, hg.row h.codes h.neG⟩
theorem Mid.put {w : World} {n cp : Nat} {lv : Value} {b G B : Nat} {cf cf' ff ff' : Nat → Nat} {sv sv' v : Value} {xs : List Value} {cs : Array Value} {W : World} (h : Mid w n cp lv b G B cf ff sv v xs cs W) (i : Nat) (u : Value) (he : (bookRow cf ff sv (.slice (some ⟨G, 0, none⟩) n cp) lv).setIfInBounds i u = bookRow cf' ff' sv' (.slice (some ⟨G, 0, none⟩) n cp) lv) : Mid w n cp lv b G B cf' ff' sv' v xs cs (W.setCell ⟨b, i, none⟩ u) :=
  ⟨h.hB, h.hb, h.hG, h.hne, h.below.trans (below_grown (grown_setCell W ⟨b, i, none⟩ u) h.hb h.size), by rw [heap_setCell_same _ b i _ _ _ h.row, he], h.own.kept_of (grown_setCell W ⟨b, i, none⟩ u) (.inl h.neB), row_kept h.codes (grown_setCell W ⟨b, i, none⟩ u) (fun e => h.hne (Option.some.inj e).symm)⟩
/-- a book whose codes of fewer than l bits are there, and those of l bits of the first i symbols -/
def OfAt (w : World) (X : List Nat) (lv : Value) (b G B n : Nat) (l f i : Nat) (W : World) : Prop := ∃ sv, Mid w n n lv b G B (cntT X l i) (fstT X f) sv sv (icells (syms X (l - 1) ++ symsTo X l i)) (ncells (codesTo X l i)).toArray W
/-- a book of right lengths -/
def BookAt (w : World) (b : Nat) (X : List Nat) (lv : Value) : Prop := ∃ sv cv, w.heap[b]? = some (.cells (bookRow (cntT X 16 0) (fstT X 15) sv cv lv) 96 (0, 0)) ∧ IntsAt w sv (syms X 15) ∧ NumsAt w cv (codesOf X)
theorem BookAt.grown {w w' : World} {b : Nat} {X : List Nat} {lv : Value} (h : BookAt w b X lv) (hg : w.grownBy w' none) : BookAt w' b X lv := by
  obtain ⟨sv, cv, h1, h2, h3⟩ := h
  exact ⟨sv, cv, row_kept h1 hg (by simp), h2.grown hg, h3.grown hg⟩
theorem OfAt.done {w : World} {X : List Nat} {lv : Value} {b G B n : Nat} {W : World} (h : OfAt w X lv b G B n 16 15 0 W) (hn : n = X.length) (hl : X.length ≤ 512) : BookAt W b X lv := by
  obtain ⟨sv, hm⟩ := h
  have hown := hm.own
  have e : syms X (16 - 1) ++ symsTo X 16 0 = syms X 15 := by rw [symsTo_zero, List.append_nil]
  rw [e] at hown
  refine ⟨sv, .slice (some ⟨G, 0, none⟩) n n, hm.row, IntsAt.of_owns hown (by have := syms_le X 15; unfold maxLen; omega), some ⟨G, 0, none⟩, n, ?_, ?_, fun j hj => ⟨_, rfl, ?_⟩⟩
  · unfold codesOf; rw [codesTo_length, hn]
  · unfold codesOf; rw [codesTo_length]; unfold maxLen; omega
  · rw [add_plain, Nat.zero_add]
    refine row_cell hm.codes j _ ?_
    unfold codesOf at hj ⊢
    simp [ncells, hj]
end Go.Proofs.YtidmmcgnghdfdaaDoor
