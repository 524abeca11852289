/- The plain law of runs of 0 as numbers in two digits, and of symbols; no program. -/
namespace Go.Proofs.YtidmmcgnghdfdaaDoor.ZerosPlain

/-- a number's digits, each less 1, the first one first -/
def dg (n : Nat) : List Nat := if h : 0 < n then ((n - 1) % 2) :: dg ((n - 1) / 2) else []
termination_by n
decreasing_by omega
theorem dg_zero : dg 0 = [] := by rw [dg]; simp
theorem dg_pos {n : Nat} (h : 0 < n) : dg n = ((n - 1) % 2) :: dg ((n - 1) / 2) := by rw [dg]; simp [h]
/-- the number of digits -/
def num : List Nat → Nat
  | [] => 0
  | d :: l => d + 1 + 2 * num l

theorem num_dg (n : Nat) : num (dg n) = n := by
  induction n using Nat.strongRecOn with
  | _ n ih =>
    by_cases h : 0 < n
    · rw [dg_pos h, num, ih _ (by omega)]; omega
    · have : n = 0 := by omega
      subst this
      rw [dg_zero]; rfl
theorem dg_num {l : List Nat} (h : ∀ d ∈ l, d < 2) : dg (num l) = l := by
  induction l with
  | nil => exact dg_zero
  | cons d l ih =>
    have hd := h d (by simp)
    have hl : ∀ d ∈ l, d < 2 := fun e he => h e (by simp [he])
    rw [num, dg_pos (by omega), show (d + 1 + 2 * num l - 1) % 2 = d by omega, show (d + 1 + 2 * num l - 1) / 2 = num l by omega, ih hl]
theorem dg_lt (n : Nat) : ∀ d ∈ dg n, d < 2 := by
  induction n using Nat.strongRecOn with
  | _ n ih =>
    by_cases h : 0 < n
    · rw [dg_pos h]
      intro d hd
      rcases List.mem_cons.1 hd with rfl | hd
      · omega
      · exact ih _ (by omega) d hd
    · have : n = 0 := by omega
      subst this
      rw [dg_zero]; intro d hd; cases hd
theorem num_append (l m : List Nat) : num (l ++ m) = num l + 2 ^ l.length * num m := by
  induction l with
  | nil => simp [num]
  | cons d l ih =>
    rw [List.cons_append, num, ih, num, List.length_cons, Nat.pow_succ]
    rw [Nat.mul_add, ← Nat.mul_assoc, Nat.mul_comm 2 (2 ^ l.length)]
    omega
theorem num_snoc (l : List Nat) (d : Nat) : num (l ++ [d]) = num l + (d + 1) * 2 ^ l.length := by
  rw [num_append]
  simp [num, Nat.mul_comm]
theorem num_ge (l : List Nat) : 2 ^ l.length ≤ num l + 1 := by
  induction l with
  | nil => simp [num]
  | cons d l ih => rw [List.length_cons, Nat.pow_succ, num]; omega
theorem dg_length (n : Nat) : 2 ^ (dg n).length ≤ n + 1 := by
  have := num_ge (dg n)
  rwa [num_dg] at this
theorem dg_length_le (n : Nat) : (dg n).length ≤ n := by
  have := dg_length n
  have h2 : (dg n).length < 2 ^ (dg n).length := Nat.lt_two_pow_self
  omega

/-- a run's state that the program has: behind digits below 2 -/
structure Run (l : List Nat) (n b : Nat) : Prop where
  small : num l ≤ 65536 → n = num l ∧ b = (if l = [] then 0 else 2 ^ (l.length - 1))
  big : 65536 < num l → n = 65537

/-- a number that is capped -/
def cap (n : Nat) : Nat := min n 65537
theorem Run.n {l : List Nat} {n b : Nat} (h : Run l n b) : n = cap (num l) := by
  unfold cap
  by_cases h1 : num l ≤ 65536
  · have := (h.small h1).1; omega
  · have := h.big (by omega); omega
theorem Run.nil : Run [] 0 0 := ⟨fun _ => ⟨rfl, by simp⟩, fun h => by simp [num] at h⟩
/-- a digit's weight in the program: it wraps -/
def nextBy (b : Nat) : Nat := max 1 (b * 2 % 18446744073709551616)
theorem len_small {l : List Nat} (h : num l ≤ 65536) : l.length ≤ 16 := by
  have h1 := num_ge l
  rcases Nat.lt_or_ge 16 l.length with h2 | h2
  · have h3 : 2 ^ 17 ≤ 2 ^ l.length := Nat.pow_le_pow_right (by decide) h2
    have : (2 : Nat) ^ 17 = 131072 := by decide
    omega
  · exact h2
theorem Run.by_next {l : List Nat} {n b : Nat} (h : Run l n b) (hs : num l ≤ 65536) : nextBy b = 2 ^ l.length ∧ 2 ^ l.length ≤ 65536 := by
  have hl := len_small hs
  have h16 : 2 ^ l.length ≤ 2 ^ 16 := Nat.pow_le_pow_right (by decide) hl
  have e16 : (2 : Nat) ^ 16 = 65536 := by decide
  have hb := (h.small hs).2
  refine ⟨?_, by omega⟩
  unfold nextBy
  by_cases h0 : l = []
  · subst h0
    simp at hb
    subst hb
    rfl
  · rw [if_neg h0] at hb
    have hpos : 0 < l.length := List.length_pos_iff.2 h0
    have e : b * 2 = 2 ^ l.length := by
      rw [hb, ← Nat.pow_succ]
      congr 1
      omega
    rw [e]
    have : 0 < 2 ^ l.length := Nat.pow_pos (by decide)
    omega
theorem Run.step {l : List Nat} {n b d : Nat} (h : Run l n b) :
    (65536 < nextBy b → Run (l ++ [d]) 65537 (nextBy b) ∧ 65536 < num (l ++ [d])) ∧
    (nextBy b ≤ 65536 → n ≤ 65537 ∧ (n + (d + 1) * nextBy b ≤ 65536 → Run (l ++ [d]) (n + (d + 1) * nextBy b) (nextBy b) ∧ num (l ++ [d]) ≤ 65536) ∧
      (65536 < n + (d + 1) * nextBy b → Run (l ++ [d]) 65537 (nextBy b) ∧ 65536 < num (l ++ [d]))) := by
  have hnum := num_snoc l d
  rcases Nat.lt_or_ge 65536 (num l) with hb | hs
  · have hn := h.big hb
    have hbig : 65536 < num (l ++ [d]) := by omega
    have hrun : Run (l ++ [d]) 65537 (nextBy b) := ⟨fun h => by omega, fun _ => rfl⟩
    exact ⟨fun _ => ⟨hrun, hbig⟩, fun _ => ⟨by omega, fun h => by omega, fun _ => ⟨hrun, hbig⟩⟩⟩
  · obtain ⟨h1, h2⟩ := h.by_next hs
    have hn := (h.small hs).1
    rw [h1, hn, ← hnum]
    refine ⟨fun h => by omega, fun _ => ⟨by omega, fun h3 => ⟨⟨fun _ => ⟨rfl, ?_⟩, fun h => by omega⟩, h3⟩, fun h3 => ⟨⟨fun h => by omega, fun _ => rfl⟩, h3⟩⟩⟩
    simp
end Go.Proofs.YtidmmcgnghdfdaaDoor.ZerosPlain
