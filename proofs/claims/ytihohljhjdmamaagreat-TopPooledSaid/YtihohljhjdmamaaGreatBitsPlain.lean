/- The plain law of bits one behind the other: numbers as bits, bytes as bits; no program. -/
namespace Go.Proofs.YtihohljhjdmamaaGreat.BitsPlain

/-- the number of some bits, the first one the highest -/
def nat (l : List Bool) : Nat := l.foldl (fun n b => 2 * n + b.toNat) 0
/-- a number's lowest bits, the highest one first -/
def bitsOf (v : Nat) : Nat → List Bool
  | 0 => []
  | w + 1 => (v / 2 ^ w % 2 == 1) :: bitsOf v w
/-- the bits of bytes -/
def unpack (b : List UInt8) : List Bool := b.flatMap fun c => bitsOf c.toNat 8

theorem foldl_nat (l : List Bool) (n : Nat) : l.foldl (fun n b => 2 * n + b.toNat) n = n * 2 ^ l.length + nat l := by
  unfold nat
  induction l generalizing n with
  | nil => simp
  | cons b l ih =>
    simp only [List.foldl_cons, List.length_cons]
    rw [ih, ih (2 * 0 + b.toNat)]
    rw [Nat.pow_succ, Nat.mul_zero, Nat.zero_add, Nat.add_mul, Nat.add_assoc]
    congr 1
    rw [Nat.mul_comm 2 n, Nat.mul_assoc, Nat.mul_comm 2]

theorem nat_nil : nat [] = 0 := rfl
theorem nat_cons (b : Bool) (l : List Bool) : nat (b :: l) = b.toNat * 2 ^ l.length + nat l := by
  have := foldl_nat l (2 * 0 + b.toNat)
  simp only [Nat.mul_zero, Nat.zero_add] at this
  unfold nat at *
  simpa using this
theorem nat_append (a b : List Bool) : nat (a ++ b) = nat a * 2 ^ b.length + nat b := by
  have := foldl_nat b (nat a)
  unfold nat at *
  rw [List.foldl_append]
  exact this
theorem nat_lt (l : List Bool) : nat l < 2 ^ l.length := by
  induction l with
  | nil => simp [nat]
  | cons b l ih =>
    rw [nat_cons, List.length_cons, Nat.pow_succ]
    cases b <;> simp <;> omega

theorem length_bitsOf (v w : Nat) : (bitsOf v w).length = w := by
  induction w with
  | zero => rfl
  | succ w ih => simp [bitsOf, ih]

theorem nat_bitsOf (v w : Nat) : nat (bitsOf v w) = v % 2 ^ w := by
  induction w with
  | zero => simp [bitsOf, nat_nil, Nat.mod_one]
  | succ w ih =>
    rw [bitsOf, nat_cons, length_bitsOf, ih]
    have h := Nat.mod_pow_succ (b := 2) (x := v) (k := w)
    rw [h]
    rcases Nat.mod_two_eq_zero_or_one (v / 2 ^ w) with h0 | h0 <;> simp [h0] <;> omega

theorem nat_inj {a b : List Bool} (hl : a.length = b.length) (h : nat a = nat b) : a = b := by
  induction a generalizing b with
  | nil => cases b with
    | nil => rfl
    | cons _ _ => simp at hl
  | cons x a ih =>
    cases b with
    | nil => simp at hl
    | cons y b =>
      have hl' : a.length = b.length := by simpa using hl
      rw [nat_cons, nat_cons, hl'] at h
      have h1 := nat_lt a
      have h2 := nat_lt b
      rw [hl'] at h1
      have hp : 0 < 2 ^ b.length := Nat.pow_pos (by decide)
      have hxy : x = y := by
        cases x <;> cases y <;> simp at h ⊢ <;> omega
      subst hxy
      have := ih hl' (by omega)
      rw [this]

theorem bitsOf_nat (l : List Bool) : bitsOf (nat l) l.length = l := by
  apply nat_inj (length_bitsOf _ _)
  rw [nat_bitsOf, Nat.mod_eq_of_lt (nat_lt l)]

theorem bitsOf_eq {v : Nat} {l : List Bool} {w : Nat} (hl : l.length = w) (h : v % 2 ^ w = nat l) : bitsOf v w = l := by
  apply nat_inj (by rw [length_bitsOf, hl])
  rw [nat_bitsOf, h]

theorem nat_replicate (n : Nat) : nat (List.replicate n false) = 0 := by
  induction n with
  | zero => rfl
  | succ n ih => rw [List.replicate_succ, nat_cons, ih]; simp

theorem bitsOf_mod (v w : Nat) : bitsOf (v % 2 ^ w) w = bitsOf v w := by
  apply nat_inj (by rw [length_bitsOf, length_bitsOf])
  rw [nat_bitsOf, nat_bitsOf, Nat.mod_mod]

theorem drop_bitsOf (v w k : Nat) (h : k ≤ w) : (bitsOf v w).drop k = bitsOf v (w - k) := by
  induction k generalizing w with
  | zero => simp
  | succ k ih =>
    cases w with
    | zero => omega
    | succ w => rw [bitsOf, List.drop_succ_cons, ih w (by omega)]; congr 1; omega

/-- the number of the first k of some bits -/
theorem nat_take (l : List Bool) (k : Nat) (_h : k ≤ l.length) : nat (l.take k) = nat l / 2 ^ (l.length - k) := by
  have e := nat_append (l.take k) (l.drop k)
  rw [List.take_append_drop, List.length_drop] at e
  rw [e]
  have h1 := nat_lt (l.drop k)
  rw [List.length_drop] at h1
  rw [Nat.add_comm, Nat.add_mul_div_right _ _ (Nat.pow_pos (by decide)), Nat.div_eq_of_lt h1, Nat.zero_add]

theorem nat_take_bitsOf (v w k : Nat) (h : k ≤ w) : nat ((bitsOf v w).take k) = v / 2 ^ (w - k) % 2 ^ k := by
  rw [nat_take _ _ (by rw [length_bitsOf]; exact h), nat_bitsOf, length_bitsOf]
  have e : w = (w - k) + k := by omega
  have h2 := Nat.mod_mul_right_div_self v (2 ^ (w - k)) (2 ^ k)
  rw [← Nat.pow_add, ← e] at h2
  exact h2

theorem nat_slice_bitsOf (v w a k : Nat) (h : a + k ≤ w) : nat (((bitsOf v w).drop a).take k) = v / 2 ^ (w - a - k) % 2 ^ k := by
  rw [drop_bitsOf v w a (by omega), nat_take_bitsOf v (w - a) k (by omega)]

theorem length_unpack (b : List UInt8) : (unpack b).length = 8 * b.length := by
  induction b with
  | nil => rfl
  | cons c b ih =>
    have : unpack (c :: b) = bitsOf c.toNat 8 ++ unpack b := by simp [unpack]
    rw [this, List.length_append, length_bitsOf, ih, List.length_cons]; omega
theorem unpack_nil : unpack [] = [] := rfl
theorem unpack_append (a b : List UInt8) : unpack (a ++ b) = unpack a ++ unpack b := by simp [unpack]
theorem unpack_one (c : UInt8) : unpack [c] = bitsOf c.toNat 8 := by simp [unpack]
theorem unpack_snoc (a : List UInt8) (c : UInt8) : unpack (a ++ [c]) = unpack a ++ bitsOf c.toNat 8 := by rw [unpack_append, unpack_one]

theorem unpack_inj {a b : List UInt8} (h : unpack a = unpack b) : a = b := by
  induction a generalizing b with
  | nil =>
    cases b with
    | nil => rfl
    | cons c b =>
      have := congrArg List.length h
      rw [length_unpack, length_unpack] at this; simp at this
  | cons x a ih =>
    cases b with
    | nil =>
      have := congrArg List.length h
      rw [length_unpack, length_unpack] at this; simp at this
    | cons y b =>
      have e1 : unpack (x :: a) = bitsOf x.toNat 8 ++ unpack a := by simp [unpack]
      have e2 : unpack (y :: b) = bitsOf y.toNat 8 ++ unpack b := by simp [unpack]
      rw [e1, e2] at h
      have h2 := List.append_inj h (by rw [length_bitsOf, length_bitsOf])
      have h3 := congrArg nat h2.1
      rw [nat_bitsOf, nat_bitsOf] at h3
      have hx := x.toNat_lt; have hy := y.toNat_lt
      have : x = y := UInt8.toNat_inj.1 (by omega)
      rw [this, ih h2.2]

/-- the bits of a byte among bytes' bits -/
theorem unpack_slice (b : List UInt8) (q a k : Nat) (hq : q < b.length) (h : a + k ≤ 8) :
    ((unpack b).drop (8 * q + a)).take k = ((bitsOf (b[q]).toNat 8).drop a).take k := by
  have e : b = b.take q ++ ([b[q]] ++ b.drop (q + 1)) := by
    rw [List.singleton_append, ← List.drop_eq_getElem_cons hq, List.take_append_drop]
  have hl : (unpack (b.take q)).length = 8 * q := by rw [length_unpack, List.length_take]; congr 1; omega
  have h1 : unpack b = unpack (b.take q) ++ (bitsOf (b[q]).toNat 8 ++ unpack (b.drop (q + 1))) := by
    conv => lhs; rw [e]
    rw [unpack_append, unpack_append, unpack_one]
  rw [h1]
  rw [List.drop_append, hl, List.drop_of_length_le (by rw [hl]; omega), List.nil_append, show 8 * q + a - 8 * q = a by omega]
  rw [List.drop_append, length_bitsOf, show a - 8 = 0 by omega, List.drop_zero]
  rw [List.take_append_of_le_length (by rw [List.length_drop, length_bitsOf]; omega)]

/-! ### right bits -/
/-- the bytes b have the bits l, and zeros behind them -/
def IsBits (b : List UInt8) (l : List Bool) : Prop := unpack b = l ++ List.replicate ((8 - l.length % 8) % 8) false

theorem IsBits.length {b : List UInt8} {l : List Bool} (h : IsBits b l) : b.length = (l.length + 7) / 8 := by
  have := congrArg List.length h
  rw [length_unpack, List.length_append, List.length_replicate] at this
  omega
theorem IsBits.nil : IsBits [] [] := rfl
theorem IsBits.bytes (b : List UInt8) : IsBits b (unpack b) := by
  unfold IsBits
  rw [length_unpack, show (8 - 8 * b.length % 8) % 8 = 0 by omega]
  simp
theorem IsBits.slice {b : List UInt8} {l : List Bool} (h : IsBits b l) (a k : Nat) (hk : a + k ≤ l.length) : ((unpack b).drop a).take k = (l.drop a).take k := by
  rw [h, List.drop_append_of_le_length (by omega), List.take_append_of_le_length (by rw [List.length_drop]; omega)]

/-- the last byte's bits behind the last one are 0 -/
theorem IsBits.last {b : List UInt8} {l : List Bool} (h : IsBits b l) (hr : 0 < l.length % 8) :
    ∃ hb : b.length - 1 < b.length, (b[b.length - 1]'hb).toNat * 2 ^ (l.length % 8) % 256 = 0 := by
  have hlen := h.length
  have hb : b.length - 1 < b.length := by omega
  refine ⟨hb, ?_⟩
  have h1 := unpack_slice b (b.length - 1) (l.length % 8) (8 - l.length % 8) hb (by omega)
  have h2 : ((unpack b).drop (8 * (b.length - 1) + l.length % 8)).take (8 - l.length % 8) = List.replicate (8 - l.length % 8) false := by
    rw [h, List.drop_append, List.drop_of_length_le (by omega), List.nil_append, show 8 * (b.length - 1) + l.length % 8 - l.length = 0 by omega, List.drop_zero]
    rw [show (8 - l.length % 8) % 8 = 8 - l.length % 8 by omega, List.take_of_length_le (by simp)]
  rw [h2] at h1
  have h3 := congrArg nat h1
  rw [nat_replicate, nat_slice_bitsOf _ _ _ _ (by omega), show 8 - l.length % 8 - (8 - l.length % 8) = 0 by omega, Nat.pow_zero, Nat.div_one] at h3
  generalize (b[b.length - 1]).toNat = c at *
  generalize hrr : l.length % 8 = r at *
  have hrlt : r < 8 := by omega
  have hm : c = 2 ^ (8 - r) * (c / 2 ^ (8 - r)) := by
    have := Nat.div_add_mod c (2 ^ (8 - r)); omega
  rw [hm, Nat.mul_comm (2 ^ (8 - r)), Nat.mul_assoc, ← Nat.pow_add, show 8 - r + r = 8 by omega]
  exact Nat.mul_mod_left _ _

/-! ### what a Writer has -/
/-- whole bytes o, and the bits r that are no byte yet: one more number's highest bits -/
theorem add_round (o : List UInt8) (r : List Bool) (v m k : Nat) (_hr : r.length < 8) (hk : k = min m (8 - r.length)) :
    let r' := r ++ (bitsOf v m).take k
    r'.length = r.length + k ∧ nat r' = nat r * 2 ^ k + v / 2 ^ (m - k) % 2 ^ k ∧ unpack o ++ r ++ bitsOf v m = unpack o ++ r' ++ bitsOf v (m - k) := by
  have hkm : k ≤ m := by omega
  refine ⟨?_, ?_, ?_⟩
  · rw [List.length_append, List.length_take, length_bitsOf]; omega
  · rw [nat_append, List.length_take, length_bitsOf, Nat.min_eq_left hkm, nat_take_bitsOf v m k hkm]
  · rw [← drop_bitsOf v m k hkm]
    simp [List.append_assoc, List.take_append_drop]

theorem flush (o : List UInt8) (r : List Bool) (hr : r.length = 8) : unpack (o ++ [UInt8.ofNat (nat r)]) = unpack o ++ r := by
  rw [unpack_snoc]
  congr 1
  have h := nat_lt r
  rw [hr] at h
  apply bitsOf_eq hr
  rw [UInt8.toNat_ofNat']
  omega

theorem finish (o : List UInt8) (r : List Bool) (_hr : 0 < r.length) (hr8 : r.length < 8) :
    IsBits (o ++ [UInt8.ofNat (nat r * 2 ^ (8 - r.length))]) (unpack o ++ r) := by
  unfold IsBits
  have hl : (unpack o ++ r).length % 8 = r.length := by rw [List.length_append, length_unpack]; omega
  rw [hl, unpack_snoc, List.append_assoc]
  congr 1
  have h := nat_lt r
  have h2 : nat r * 2 ^ (8 - r.length) < 2 ^ 8 := by
    have : 2 ^ 8 = 2 ^ r.length * 2 ^ (8 - r.length) := by rw [← Nat.pow_add]; congr 1; omega
    rw [this]
    exact Nat.mul_lt_mul_of_pos_right h (Nat.pow_pos (by decide))
  apply bitsOf_eq
  · rw [List.length_append, List.length_replicate]; omega
  · rw [nat_append, nat_replicate, List.length_replicate, show (8 - r.length) % 8 = 8 - r.length by omega, UInt8.toNat_ofNat']
    omega
theorem whole (o : List UInt8) : IsBits o (unpack o) := IsBits.bytes o
end Go.Proofs.YtihohljhjdmamaaGreat.BitsPlain
