/- The plain law of a canonical code: first codes, places, and why a symbol is found. -/
namespace Go.Proofs.YtidmmcgnghdfdaaDoor.CanonPlain

/-- the code behind the codes of m bits -/
def gc (X : List Nat) : Nat → Nat
  | 0 => 0
  | m + 1 => 2 * gc X m + X.count (m + 1)
/-- the first code of m bits -/
def fc (X : List Nat) : Nat → Nat
  | 0 => 0
  | m + 1 => 2 * gc X m
theorem fc_gc (X : List Nat) (m : Nat) (h : 1 ≤ m) : gc X m = fc X m + X.count m := by
  obtain ⟨k, rfl⟩ : ∃ k, m = k + 1 := ⟨m - 1, by omega⟩
  rfl
/-- the symbol's code -/
def codeAt (X : List Nat) (i : Nat) : Nat := fc X (X.getD i 0) + (X.take i).count (X.getD i 0)
theorem take_count (X : List Nat) (i l : Nat) (h : X[i]? = some l) : (X.take i).count l < X.count l := by
  obtain ⟨hi, rfl⟩ := List.getElem?_eq_some_iff.1 h
  have h1 : (X.take (i + 1)).count X[i] ≤ X.count X[i] := (List.take_sublist _ _).count_le _
  rw [List.take_succ_eq_append_getElem hi, List.count_append] at h1
  simp at h1
  omega
theorem code_lt (X : List Nat) (i l : Nat) (h : X[i]? = some l) (h1 : 1 ≤ l) : codeAt X i < gc X l := by
  have e : X.getD i 0 = l := by simp [List.getD, h]
  unfold codeAt
  rw [e, fc_gc X l h1]
  have := take_count X i l h
  omega
theorem gc_grow (X : List Nat) (l : Nat) : ∀ d, 2 ^ d * gc X l ≤ gc X (l + d)
  | 0 => by simp
  | d + 1 => by
    have ih := gc_grow X l d
    show _ ≤ 2 * gc X (l + d) + X.count (l + d + 1)
    rw [Nat.pow_succ, Nat.mul_comm (2 ^ d) 2, Nat.mul_assoc]
    omega
theorem fc_grow (X : List Nat) (l d : Nat) (h : 1 ≤ d) : 2 ^ d * gc X l ≤ fc X (l + d) := by
  obtain ⟨k, rfl⟩ : ∃ k, d = k + 1 := ⟨d - 1, by omega⟩
  have ih := gc_grow X l k
  show _ ≤ 2 * gc X (l + k)
  rw [Nat.pow_succ, Nat.mul_comm (2 ^ k) 2, Nat.mul_assoc]
  omega
/-- fewer bits of a code are behind all codes of so many bits -/
theorem short_no (X : List Nat) (i L l : Nat) (h : X[i]? = some L) (hl : l < L) : gc X l ≤ codeAt X i / 2 ^ (L - l) := by
  have e : X.getD i 0 = L := by simp [List.getD, h]
  have h1 := fc_grow X l (L - l) (by omega)
  rw [show l + (L - l) = L by omega] at h1
  rw [Nat.le_div_iff_mul_le (Nat.two_pow_pos _), Nat.mul_comm]
  unfold codeAt
  rw [e]
  omega
/-- the room that a length takes -/
def rmL (m l : Nat) : Nat := if 1 ≤ l ∧ l ≤ m then 2 ^ (m - l) else 0
theorem gc_cons (x : Nat) (X : List Nat) : ∀ m, gc (x :: X) m = rmL m x + gc X m
  | 0 => by simp [gc, rmL]; omega
  | m + 1 => by
    rw [gc, gc, gc_cons x X m, List.count_cons]
    by_cases h1 : x = m + 1
    · have a1 : rmL (m + 1) x = 1 := by unfold rmL; rw [if_pos (by omega), h1, Nat.sub_self]
      have a2 : rmL m x = 0 := by unfold rmL; rw [if_neg (by omega)]
      rw [a1, a2, h1]
      simp
      omega
    · have h2 : (x == m + 1) = false := by simpa using h1
      rw [h2]
      by_cases h3 : 1 ≤ x ∧ x ≤ m
      · have a1 : rmL (m + 1) x = 2 * rmL m x := by unfold rmL; rw [if_pos (by omega), if_pos h3, show m + 1 - x = (m - x) + 1 by omega, Nat.pow_succ, Nat.mul_comm]
        rw [a1]
        simp
        omega
      · have a1 : rmL (m + 1) x = 0 := by unfold rmL; rw [if_neg (by omega)]
        have a2 : rmL m x = 0 := by unfold rmL; rw [if_neg h3]
        rw [a1, a2]
        simp
theorem gc_sum (m : Nat) : ∀ X : List Nat, gc X m = (X.map (rmL m)).sum
  | [] => by
    have : ∀ m, gc [] m = 0 := fun m => by
      induction m with
      | zero => rfl
      | succ m ih => rw [gc, ih]; rfl
    rw [this]; rfl
  | x :: X => by rw [gc_cons, gc_sum m X, List.map_cons, List.sum_cons]
/-- a right code's codes have so many bits -/
theorem gc_le (X : List Nat) (h : (X.map (rmL 15)).sum ≤ 2 ^ 15) (l : Nat) (hl : l ≤ 15) : gc X l ≤ 2 ^ l := by
  have h1 := gc_grow X l (15 - l)
  rw [show l + (15 - l) = 15 by omega, gc_sum 15 X] at h1
  have h2 : 2 ^ (15 - l) * gc X l ≤ 2 ^ (15 - l) * 2 ^ l := by rw [← Nat.pow_add, show 15 - l + l = 15 by omega]; omega
  exact Nat.le_of_mul_le_mul_left h2 (Nat.two_pow_pos _)
/-- the symbols of a length, those of fewer bits ahead -/
def symsOf (X : List Nat) (l : Nat) : List Nat := (List.range X.length).filter fun i => X.getD i 0 == l
def syms (X : List Nat) : Nat → List Nat
  | 0 => []
  | m + 1 => syms X m ++ symsOf X (m + 1)
theorem range_filter_len (X : List Nat) (l : Nat) : ∀ k, k ≤ X.length → ((List.range k).filter fun i => X.getD i 0 == l).length = (X.take k).count l
  | 0, _ => by simp
  | k + 1, hk => by
    have hk' : k < X.length := hk
    rw [List.range_succ, List.filter_append, List.length_append, range_filter_len X l k (by omega), List.take_succ_eq_append_getElem hk', List.count_append]
    congr 1
    have e : X.getD k 0 = X[k] := by simp [List.getD, hk']
    rw [List.filter_cons, e, List.filter_nil, List.count_cons, List.count_nil]
    by_cases h : X[k] = l
    · simp [h]
    · simp [h]
theorem symsOf_length (X : List Nat) (l : Nat) : (symsOf X l).length = X.count l := by
  unfold symsOf
  rw [range_filter_len X l X.length (Nat.le_refl _), List.take_length]
theorem syms_length_succ (X : List Nat) (m : Nat) : (syms X (m + 1)).length = (syms X m).length + X.count (m + 1) := by
  rw [syms, List.length_append, symsOf_length]
theorem symsOf_get (X : List Nat) (i l : Nat) (h : X[i]? = some l) : (symsOf X l)[(X.take i).count l]? = some i := by
  obtain ⟨hi, hx⟩ := List.getElem?_eq_some_iff.1 h
  have e : List.range X.length = List.range i ++ (i :: (List.range' (i + 1) (X.length - (i + 1)))) := by
    rw [List.range_eq_range', List.range_eq_range']
    have h2 : X.length = i + ((X.length - (i + 1)) + 1) := by omega
    conv => lhs; rw [h2]
    rw [← List.range'_append_1]
    congr 1
    rw [List.range'_succ]
    simp
  unfold symsOf
  rw [e, List.filter_append, List.getElem?_append_right (by rw [range_filter_len X l i (by omega)]; omega), range_filter_len X l i (by omega), Nat.sub_self]
  have e2 : X.getD i 0 = l := by simp [List.getD, h]
  rw [List.filter_cons_of_pos (by rw [e2]; exact beq_self_eq_true l)]
  rfl
theorem syms_pre (X : List Nat) (m : Nat) : ∀ d, ∃ r, syms X (m + d) = syms X m ++ r
  | 0 => ⟨[], by simp⟩
  | d + 1 => by
    obtain ⟨r, hr⟩ := syms_pre X m d
    exact ⟨r ++ symsOf X (m + d + 1), by show syms X (m + d) ++ symsOf X (m + d + 1) = _; rw [hr, List.append_assoc]⟩
/-- a symbol's place among all symbols -/
theorem syms_get (X : List Nat) (i l : Nat) (h : X[i]? = some l) (h1 : 1 ≤ l) (h2 : l ≤ 15) : (syms X 15)[(syms X (l - 1)).length + (X.take i).count l]? = some i := by
  obtain ⟨r, hr⟩ := syms_pre X l (15 - l)
  rw [show l + (15 - l) = 15 by omega] at hr
  obtain ⟨k, rfl⟩ : ∃ k, l = k + 1 := ⟨l - 1, by omega⟩
  have h3 := take_count X i (k + 1) h
  rw [hr, Nat.add_sub_cancel, List.getElem?_append_left (by rw [syms_length_succ]; omega), syms, List.getElem?_append_right (by omega), Nat.add_sub_cancel_left]
  exact symsOf_get X i (k + 1) h
end Go.Proofs.YtidmmcgnghdfdaaDoor.CanonPlain
