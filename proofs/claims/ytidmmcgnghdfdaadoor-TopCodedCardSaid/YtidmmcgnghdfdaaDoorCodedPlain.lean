/- The plain law of a table of lengths, and of symbols' codes behind it. -/
import Derived.Test.YtidmmcgnghdfdaaDoorCanonPlain
import Derived.Test.YtidmmcgnghdfdaaDoorBitsPlain
namespace Go.Proofs.YtidmmcgnghdfdaaDoor.CanonPlain
open BitsPlain
set_option linter.unusedVariables false

/-- d steps up, or down -/
def ups (b : Bool) : Nat → List Bool
  | 0 => []
  | d + 1 => true :: b :: ups b d
theorem ups_length (b : Bool) : ∀ d, (ups b d).length = 2 * d
  | 0 => rfl
  | d + 1 => by rw [ups, List.length_cons, List.length_cons, ups_length b d]; omega
theorem ups_snoc (b : Bool) : ∀ d, ups b (d + 1) = ups b d ++ [true, b]
  | 0 => rfl
  | d + 1 => by
    show true :: b :: ups b (d + 1) = true :: b :: ups b d ++ [true, b]
    rw [ups_snoc b d]; rfl
/-- the steps from a length to the next one -/
def steps (now l : Nat) : List Bool := ups false (l - now) ++ ups true (now - l)
theorem steps_length (now l : Nat) : (steps now l).length = 2 * (l - now + (now - l)) := by
  unfold steps
  rw [List.length_append, ups_length, ups_length]
  omega
def tab (now : Nat) : List Nat → List Bool
  | [] => []
  | l :: r => steps now l ++ false :: tab l r
def tabBits (X : List Nat) : List Bool := bitsOf (X.getD 0 0) 4 ++ tab (X.getD 0 0) X
/-- the length ahead of the i-th one -/
def prv (X : List Nat) (i : Nat) : Nat := if i = 0 then X.getD 0 0 else X.getD (i - 1) 0
theorem prv_zero (X : List Nat) : prv X 0 = X.getD 0 0 := rfl
theorem prv_succ (X : List Nat) (i : Nat) : prv X (i + 1) = X.getD i 0 := by unfold prv; rw [if_neg (by omega)]; rfl
/-- the bits of the first i lengths -/
def tabTo (X : List Nat) : Nat → List Bool
  | 0 => bitsOf (X.getD 0 0) 4
  | i + 1 => tabTo X i ++ (steps (prv X i) (X.getD i 0) ++ [false])
theorem tab_cut (X : List Nat) : ∀ d i, i + d = X.length → tabTo X i ++ tab (prv X i) (X.drop i) = tabTo X X.length
  | 0, i, h => by
    obtain rfl : i = X.length := by omega
    rw [List.drop_length]; simp [tab]
  | d + 1, i, h => by
    have hi : i < X.length := by omega
    have e : X.getD i 0 = X[i] := by simp [List.getD, hi]
    rw [List.drop_eq_getElem_cons hi, tab, ← e]
    have := tab_cut X d (i + 1) (by omega)
    rw [prv_succ, tabTo] at this
    rw [← this]
    simp
theorem tabBits_eq (X : List Nat) : tabBits X = tabTo X X.length := by
  have := tab_cut X X.length 0 (by omega)
  rw [prv_zero, List.drop_zero] at this
  exact this
theorem tabTo_pre (X : List Nat) (i : Nat) : ∀ d, ∃ r, tabTo X (i + d) = tabTo X i ++ r
  | 0 => ⟨[], by simp⟩
  | d + 1 => by
    obtain ⟨r, hr⟩ := tabTo_pre X i d
    exact ⟨r ++ (steps (prv X (i + d)) (X.getD (i + d) 0) ++ [false]), by show tabTo X (i + d) ++ _ = _; rw [hr, List.append_assoc]; rfl⟩
/-- how many bits the first i lengths have -/
def sizeTo (X : List Nat) : Nat → Nat
  | 0 => 4
  | i + 1 => sizeTo X i + (1 + 2 * (X.getD i 0 - prv X i + (prv X i - X.getD i 0)))
theorem tabTo_length (X : List Nat) : ∀ i, (tabTo X i).length = sizeTo X i
  | 0 => by rw [tabTo, length_bitsOf]; rfl
  | i + 1 => by
    rw [tabTo, List.length_append, List.length_append, tabTo_length X i, steps_length, sizeTo]
    simp only [List.length_cons, List.length_nil]
    omega
theorem prv_le (X : List Nat) (h : ∀ s, X.getD s 0 ≤ 15) (i : Nat) : prv X i ≤ 15 := by
  unfold prv; split <;> exact h _
theorem sizeTo_le (X : List Nat) (h : ∀ s, X.getD s 0 ≤ 15) : ∀ i, sizeTo X i ≤ 4 + 31 * i
  | 0 => by simp [sizeTo]
  | i + 1 => by
    have h1 := sizeTo_le X h i
    have h2 := prv_le X h i
    have h3 := h i
    rw [sizeTo]
    omega
/-- the next bits of a table -/
theorem tab_next (X : List Nat) (rest : List Bool) (i : Nat) (hi : i < X.length) :
    ∃ r, (tabBits X ++ rest).drop (sizeTo X i) = steps (prv X i) (X.getD i 0) ++ false :: r := by
  obtain ⟨r, hr⟩ := tabTo_pre X (i + 1) (X.length - (i + 1))
  rw [show i + 1 + (X.length - (i + 1)) = X.length by omega] at hr
  rw [tabBits_eq, hr, tabTo]
  refine ⟨r ++ rest, ?_⟩
  rw [← tabTo_length, List.append_assoc, List.append_assoc, List.append_assoc, List.drop_left]
  simp
theorem tab_head (X : List Nat) (rest : List Bool) (h : X.getD 0 0 ≤ 15) : nat ((tabBits X ++ rest).take 4) = X.getD 0 0 := by
  unfold tabBits
  rw [List.append_assoc, List.take_append_of_le_length (by rw [length_bitsOf]; exact Nat.le_refl _), List.take_of_length_le (by rw [length_bitsOf]; exact Nat.le_refl _), nat_bitsOf]
  omega

/-! ### symbols -/
def symBits (X : List Nat) : List Nat → List Bool
  | [] => []
  | x :: S => bitsOf (codeAt X x) (X.getD x 0) ++ symBits X S
theorem symBits_append (X S R : List Nat) : symBits X (S ++ R) = symBits X S ++ symBits X R := by
  induction S with
  | nil => rfl
  | cons x S ih => rw [List.cons_append, symBits, symBits, ih, List.append_assoc]
theorem symBits_length (X : List Nat) : ∀ S : List Nat, (symBits X S).length = (S.map fun x => X.getD x 0).sum
  | [] => rfl
  | x :: S => by rw [symBits, List.length_append, length_bitsOf, symBits_length X S, List.map_cons, List.sum_cons]
theorem symBits_le (X : List Nat) (h : ∀ s, X.getD s 0 ≤ 15) : ∀ S : List Nat, (symBits X S).length ≤ 15 * S.length
  | [] => by simp [symBits]
  | x :: S => by
    have := symBits_le X h S
    have := h x
    rw [symBits, List.length_append, length_bitsOf, List.length_cons]
    omega
/-- the next symbol's bits -/
theorem sym_next (X S : List Nat) (pre : List Bool) (i : Nat) (hi : i < S.length) :
    ((pre ++ symBits X S).drop (pre.length + (symBits X (S.take i)).length)).take (X.getD S[i] 0) = bitsOf (codeAt X S[i]) (X.getD S[i] 0)
    ∧ (symBits X (S.take (i + 1))).length = (symBits X (S.take i)).length + X.getD S[i] 0
    ∧ (symBits X (S.take (i + 1))).length ≤ (symBits X S).length := by
  have e : S = S.take i ++ (S[i] :: S.drop (i + 1)) := by rw [← List.drop_eq_getElem_cons hi, List.take_append_drop]
  have e2 : symBits X S = symBits X (S.take i) ++ (bitsOf (codeAt X S[i]) (X.getD S[i] 0) ++ symBits X (S.drop (i + 1))) := by
    conv => lhs; rw [e]
    rw [symBits_append, symBits]
  have e3 : symBits X (S.take (i + 1)) = symBits X (S.take i) ++ bitsOf (codeAt X S[i]) (X.getD S[i] 0) := by
    rw [List.take_succ_eq_append_getElem hi, symBits_append, symBits, symBits, List.append_nil]
  refine ⟨?_, by rw [e3, List.length_append, length_bitsOf], by rw [e3, e2]; simp⟩
  rw [← List.length_append, e2, ← List.append_assoc, List.drop_left, List.take_append_of_le_length (by rw [length_bitsOf]; exact Nat.le_refl _), List.take_of_length_le (by rw [length_bitsOf]; exact Nat.le_refl _)]

/-! ### reading a symbol's code bit by bit -/
theorem code_bits (v L l : Nat) (hl : l ≤ L) (m : List Bool) (h : m.take L = bitsOf v L) (hv : v < 2 ^ L) : nat (m.take l) = v / 2 ^ (L - l) := by
  have h1 : m.take l = (bitsOf v L).take l := by rw [← h, List.take_take, Nat.min_eq_left hl]
  rw [h1, nat_take_bitsOf v L l hl]
  refine Nat.mod_eq_of_lt ?_
  rw [Nat.div_lt_iff_lt_mul (Nat.two_pow_pos _), ← Nat.pow_add, show l + (L - l) = L by omega]
  exact hv
/-- the code's cells -/
def codesTo (X : List Nat) (l i : Nat) : List Nat := (List.range X.length).map fun j => if 1 ≤ X.getD j 0 ∧ (X.getD j 0 < l ∨ X.getD j 0 = l ∧ j < i) then codeAt X j else 0
def codesOf (X : List Nat) : List Nat := codesTo X 16 0
theorem codesOf_get (X : List Nat) (h : ∀ s, X.getD s 0 ≤ 15) (i : Nat) (hi : i < X.length) (h1 : 1 ≤ X.getD i 0) : (codesOf X)[i]? = some (codeAt X i) := by
  unfold codesOf codesTo
  have := h i
  simp [hi]
  intro h2
  simp [List.getD, hi] at this h1
  omega
/-- the symbols of length l among the first i -/
def symsTo (X : List Nat) (l i : Nat) : List Nat := (List.range i).filter fun j => X.getD j 0 == l
theorem symsTo_zero (X : List Nat) (l : Nat) : symsTo X l 0 = [] := rfl
theorem symsTo_all (X : List Nat) (l : Nat) : symsTo X l X.length = symsOf X l := rfl
theorem symsTo_succ (X : List Nat) (l i : Nat) : symsTo X l (i + 1) = if X.getD i 0 = l then symsTo X l i ++ [i] else symsTo X l i := by
  unfold symsTo
  rw [List.range_succ, List.filter_append]
  by_cases h : X.getD i 0 = l
  · rw [if_pos h, List.filter_cons_of_pos (by simpa using h), List.filter_nil]
  · rw [if_neg h, List.filter_cons_of_neg (by simpa using h), List.filter_nil, List.append_nil]
theorem count_succ (X : List Nat) (l i : Nat) (hi : i < X.length) : (X.take (i + 1)).count l = (X.take i).count l + if X.getD i 0 = l then 1 else 0 := by
  have e : X.getD i 0 = X[i] := by simp [List.getD, hi]
  rw [List.take_succ_eq_append_getElem hi, List.count_append, e, List.count_cons, List.count_nil]
  by_cases h : X[i] = l <;> simp [h]
theorem syms_len_le (X : List Nat) : ∀ m, (syms X m).length + (X.filter fun x => decide (m < x)).length ≤ X.length
  | 0 => by simp [syms]; exact List.length_filter_le _ _
  | m + 1 => by
    have ih := syms_len_le X m
    rw [syms_length_succ]
    have : X.count (m + 1) + (X.filter fun x => decide (m + 1 < x)).length = (X.filter fun x => decide (m < x)).length := by
      clear ih
      induction X with
      | nil => rfl
      | cons x X ih =>
        rw [List.count_cons, List.filter_cons, List.filter_cons]
        by_cases h1 : x = m + 1
        · subst h1
          simp
          omega
        · by_cases h2 : m < x
          · have h3 : m + 1 < x := by omega
            simp [h1, h2, h3]
            omega
          · have h3 : ¬ m + 1 < x := by omega
            simp [h1, h2, h3]
            omega
    omega
theorem syms_le (X : List Nat) (m : Nat) : (syms X m).length ≤ X.length := by have := syms_len_le X m; omega
theorem count_len (X : List Nat) (i l : Nat) : (X.take i).count l ≤ X.length := Nat.le_trans List.count_le_length (by rw [List.length_take]; omega)
theorem mem_syms_lt (X : List Nat) : ∀ m, ∀ i ∈ syms X m, i < X.length
  | 0, i, h => by simp [syms] at h
  | m + 1, i, h => by
    rw [syms] at h
    rcases List.mem_append.1 h with h | h
    · exact mem_syms_lt X m i h
    · exact List.mem_range.1 (List.mem_filter.1 h).1
end Go.Proofs.YtidmmcgnghdfdaaDoor.CanonPlain
