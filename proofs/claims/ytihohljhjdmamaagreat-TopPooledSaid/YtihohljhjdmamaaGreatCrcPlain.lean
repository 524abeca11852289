/- The plain law of check sums: a byte turned gives another sum, and another tail; no program. -/
namespace Go.Proofs.YtihohljhjdmamaaGreat.CrcPlain

/-- one bit's step of the register -/
def f (r : Nat) : Nat := if r % 2 = 1 then (r / 2) ^^^ 3988292384 else r / 2
def stepN : Nat → Nat → Nat
  | 0, r => r
  | k + 1, r => f (stepN k r)
theorem f_lt {r : Nat} (h : r < 2 ^ 32) : f r < 2 ^ 32 := by
  unfold f
  split
  · exact Nat.xor_lt_two_pow (by omega) (by decide)
  · omega
theorem stepN_lt {r : Nat} (h : r < 2 ^ 32) (k : Nat) : stepN k r < 2 ^ 32 := by
  induction k with
  | zero => exact h
  | succ k ih => exact f_lt ih
/-- what a register becomes by a byte -/
def upd (r : Nat) (c : UInt8) : Nat := (r / 256) ^^^ stepN 8 ((r ^^^ c.toNat) % 256)
theorem upd_lt {r : Nat} (h : r < 2 ^ 32) (c : UInt8) : upd r c < 2 ^ 32 := by
  unfold upd
  exact Nat.xor_lt_two_pow (by omega) (stepN_lt (by omega) 8)

/-- the highest byte of a byte's step tells the byte -/
def topOk : Bool := (List.range 256).all fun x => (List.range 256).all fun y => x == y || stepN 8 x / 2 ^ 24 != stepN 8 y / 2 ^ 24
theorem topOk_true : topOk = true := by decide +kernel
theorem top_inj {x y : Nat} (hx : x < 256) (hy : y < 256) (h : stepN 8 x / 2 ^ 24 = stepN 8 y / 2 ^ 24) : x = y := by
  have h1 := topOk_true
  unfold topOk at h1
  rw [List.all_eq_true] at h1
  have h2 := h1 x (List.mem_range.2 hx)
  rw [List.all_eq_true] at h2
  have h3 := h2 y (List.mem_range.2 hy)
  rw [h] at h3
  simpa using h3

theorem xor_div (a b k : Nat) : (a ^^^ b) / 2 ^ k = (a / 2 ^ k) ^^^ (b / 2 ^ k) := by
  rw [← Nat.shiftRight_eq_div_pow, ← Nat.shiftRight_eq_div_pow, ← Nat.shiftRight_eq_div_pow, Nat.shiftRight_xor_distrib]
theorem xor_mod (a b k : Nat) : (a ^^^ b) % 2 ^ k = (a % 2 ^ k) ^^^ (b % 2 ^ k) := Nat.xor_mod_two_pow
theorem xor_right_inj {a b c : Nat} (h : a ^^^ c = b ^^^ c) : a = b := by
  have := congrArg (· ^^^ c) h
  simpa [Nat.xor_assoc] using this
theorem xor_left_inj {a b c : Nat} (h : c ^^^ a = c ^^^ b) : a = b := by
  rw [Nat.xor_comm c a, Nat.xor_comm c b] at h
  exact xor_right_inj h

/-- where registers, and bytes, give one register, they are alike in the low byte's step, and in the rest -/
theorem upd_parts {r s : Nat} {c d : UInt8} (hr : r < 2 ^ 32) (hs : s < 2 ^ 32) (h : upd r c = upd s d) : (r ^^^ c.toNat) % 256 = (s ^^^ d.toNat) % 256 ∧ r / 256 = s / 256 := by
  unfold upd at h
  have h1 := congrArg (· / 2 ^ 24) h
  simp only [xor_div] at h1
  rw [show r / 256 / 2 ^ 24 = 0 by omega, show s / 256 / 2 ^ 24 = 0 by omega, Nat.zero_xor, Nat.zero_xor] at h1
  have h2 := top_inj (by omega) (by omega) h1
  rw [h2] at h
  exact ⟨h2, xor_right_inj h⟩

theorem upd_inj {r s : Nat} {c : UInt8} (hr : r < 2 ^ 32) (hs : s < 2 ^ 32) (h : upd r c = upd s c) : r = s := by
  obtain ⟨h1, h2⟩ := upd_parts hr hs h
  have e := xor_mod r c.toNat 8
  have e2 := xor_mod s c.toNat 8
  simp only [show (2 : Nat) ^ 8 = 256 from rfl] at e e2
  rw [e, e2] at h1
  have := xor_right_inj h1
  omega
theorem upd_byte {r : Nat} {c d : UInt8} (hr : r < 2 ^ 32) (h : upd r c = upd r d) : c = d := by
  obtain ⟨h1, _⟩ := upd_parts hr hr h
  have e := xor_mod r c.toNat 8
  have e2 := xor_mod r d.toNat 8
  simp only [show (2 : Nat) ^ 8 = 256 from rfl] at e e2
  rw [e, e2] at h1
  have h2 := xor_left_inj h1
  have := c.toNat_lt; have := d.toNat_lt
  exact UInt8.toNat_inj.1 (by omega)

/-- a register behind bytes -/
def run (r : Nat) (l : List UInt8) : Nat := l.foldl upd r
theorem run_lt {r : Nat} (h : r < 2 ^ 32) (l : List UInt8) : run r l < 2 ^ 32 := by
  unfold run
  induction l generalizing r with
  | nil => exact h
  | cons c l ih => exact ih (upd_lt h c)
theorem run_inj {r s : Nat} {l : List UInt8} (hr : r < 2 ^ 32) (hs : s < 2 ^ 32) (h : run r l = run s l) : r = s := by
  unfold run at h
  induction l generalizing r s with
  | nil => exact h
  | cons c l ih => exact upd_inj hr hs (ih (upd_lt hr c) (upd_lt hs c) h)
theorem run_append (r : Nat) (a b : List UInt8) : run r (a ++ b) = run (run r a) b := by simp [run]

/-- a byte turned gives another register -/
theorem run_set {r : Nat} {l : List UInt8} {i : Nat} {d : UInt8} (hr : r < 2 ^ 32) (hi : i < l.length) (h : run r (l.set i d) = run r l) : l[i] = d := by
  have e : l = l.take i ++ (l[i] :: l.drop (i + 1)) := by rw [← List.drop_eq_getElem_cons hi, List.take_append_drop]
  have e2 : l.set i d = l.take i ++ (d :: l.drop (i + 1)) := by
    rw [List.set_eq_take_append_cons_drop, if_pos hi]
  rw [e2] at h
  have h' : run r (l.take i ++ (d :: l.drop (i + 1))) = run r (l.take i ++ (l[i] :: l.drop (i + 1))) := by rw [h]; conv => lhs; rw [e]
  rw [run_append, run_append] at h'
  have hq := run_lt hr (l.take i)
  have h2 : run (upd (run r (l.take i)) d) (l.drop (i + 1)) = run (upd (run r (l.take i)) l[i]) (l.drop (i + 1)) := h'
  exact (upd_byte hq (run_inj (upd_lt hq d) (upd_lt hq _) h2)).symm

/-- the sum of bytes that go on behind such a sum -/
def more (sum : Nat) (l : List UInt8) : Nat := 4294967295 - run (4294967295 - sum) l
def sum (l : List UInt8) : Nat := more 0 l
theorem more_lt (s : Nat) (l : List UInt8) : more s l < 2 ^ 32 := by unfold more; omega
theorem sum_set {l : List UInt8} {i : Nat} {d : UInt8} (hi : i < l.length) (h : sum (l.set i d) = sum l) : l[i] = d := by
  unfold sum more at h
  have h1 := run_lt (r := 4294967295 - 0) (by decide) (l.set i d)
  have h2 := run_lt (r := 4294967295 - 0) (by decide) l
  exact run_set (r := 4294967295 - 0) (by decide) hi (by omega)

/-- a sum's bytes, the lowest first -/
def tail (s : Nat) : List UInt8 := [UInt8.ofNat s, UInt8.ofNat (s / 256), UInt8.ofNat (s / 65536), UInt8.ofNat (s / 16777216)]
theorem tail_length (s : Nat) : (tail s).length = 4 := rfl
theorem tail_inj {a b : Nat} (ha : a < 2 ^ 32) (hb : b < 2 ^ 32) (h : tail a = tail b) : a = b := by
  unfold tail at h
  simp only [List.cons.injEq, and_true] at h
  obtain ⟨h0, h1, h2, h3⟩ := h
  have g : ∀ {x y : Nat}, UInt8.ofNat x = UInt8.ofNat y → x % 256 = y % 256 := fun {x y} e => by
    have := congrArg UInt8.toNat e
    simpa [UInt8.toNat_ofNat'] using this
  have := g h0; have := g h1; have := g h2; have := g h3
  omega

/-- a frame of which one byte is another is none -/
theorem frame_set {l : List UInt8} {i : Nat} {d : UInt8} (hi : i < (l ++ tail (sum l)).length) (hd : (l ++ tail (sum l))[i] ≠ d) :
    tail (sum (((l ++ tail (sum l)).set i d).take l.length)) ≠ ((l ++ tail (sum l)).set i d).drop l.length := by
  intro h
  by_cases hlt : i < l.length
  · have e1 : ((l ++ tail (sum l)).set i d) = l.set i d ++ tail (sum l) := List.set_append_left _ _ hlt
    rw [e1] at h
    rw [List.take_append_of_le_length (by simp), List.drop_append_of_le_length (by simp)] at h
    rw [List.take_of_length_le (by simp), List.drop_of_length_le (by simp), List.nil_append] at h
    have := sum_set hlt (tail_inj (more_lt _ _) (more_lt _ _) h)
    rw [List.getElem_append_left hlt] at hd
    exact hd this
  · have e1 : ((l ++ tail (sum l)).set i d) = l ++ (tail (sum l)).set (i - l.length) d := List.set_append_right _ _ (by omega)
    rw [e1, List.take_append_of_le_length (by simp), List.drop_append_of_le_length (by simp)] at h
    rw [List.take_of_length_le (by simp), List.drop_of_length_le (by simp), List.nil_append] at h
    have h3 : i - l.length < (tail (sum l)).length := by rw [List.length_append] at hi; omega
    have h4 : (tail (sum l))[i - l.length]'h3 = ((tail (sum l)).set (i - l.length) d)[i - l.length]'(by simpa using h3) := by
      congr 1
    rw [List.getElem_set_self] at h4
    rw [List.getElem_append_right (by omega)] at hd
    exact hd h4
end Go.Proofs.YtihohljhjdmamaaGreat.CrcPlain
