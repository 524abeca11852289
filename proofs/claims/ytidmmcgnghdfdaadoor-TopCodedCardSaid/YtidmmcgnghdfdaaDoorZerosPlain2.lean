/- The plain law of encoding and decoding symbols; no program. -/
import Derived.Test.YtidmmcgnghdfdaaDoorZerosPlain
namespace Go.Proofs.YtidmmcgnghdfdaaDoor.ZerosPlain

/-- symbols of bytes, behind a run of n zeros -/
def encG : List UInt8 → Nat → List Nat
  | [], n => dg n ++ [257]
  | c :: l, n => if c = 0 then encG l (n + 1) else dg n ++ (c.toNat + 1) :: encG l 0
theorem encG_length (l : List UInt8) (n : Nat) : (encG l n).length ≤ l.length + n + 1 := by
  induction l generalizing n with
  | nil => have := dg_length_le n; simp [encG]; omega
  | cons c l ih =>
    rw [encG]
    split
    · have := ih (n + 1); rw [List.length_cons]; omega
    · have h1 := ih 0
      have h2 := dg_length_le n
      rw [List.length_append, List.length_cons, List.length_cons]; omega

theorem encG_small (l : List UInt8) (n : Nat) : ∀ x ∈ encG l n, x ≤ 257 := by
  induction l generalizing n with
  | nil =>
    intro x hx
    rw [encG] at hx
    rcases List.mem_append.1 hx with hx | hx
    · have := dg_lt n x hx; omega
    · rw [List.mem_singleton.1 hx]; omega
  | cons c l ih =>
    rw [encG]
    split
    · exact ih _
    · intro x hx
      rcases List.mem_append.1 hx with hx | hx
      · have := dg_lt n x hx; omega
      · rcases List.mem_cons.1 hx with rfl | hx
        · have := c.toNat_lt; omega
        · exact ih _ x hx

def decG : List Nat → List UInt8 → List Nat → Nat → List UInt8 × Nat × Int
  | [], out, run, _ => if 65536 < out.length + num run then ([], 0, 8) else ([], 0, 5)
  | x :: l, out, run, i =>
    if x < 2 then decG l out (run ++ [x]) (i + 1)
    else if 65536 < out.length + num run then ([], 0, 8)
    else if 257 < x then ([], 0, 7)
    else if x = 257 then (out ++ List.replicate (num run) 0, i + 1, 0)
    else if out.length + num run = 65536 then ([], 0, 8)
    else decG l (out ++ List.replicate (num run) 0 ++ [UInt8.ofNat (x - 1)]) [] (i + 1)

theorem decG_feed (ds m : List Nat) (out : List UInt8) (run : List Nat) (i : Nat) (h : ∀ d ∈ ds, d < 2) : decG (ds ++ m) out run i = decG m out (run ++ ds) (i + ds.length) := by
  induction ds generalizing run i with
  | nil => simp
  | cons d ds ih =>
    have hd : d < 2 := h d (by simp)
    rw [List.cons_append, decG, if_pos hd, ih _ _ (fun e he => h e (by simp [he]))]
    rw [List.append_assoc]
    congr 1
    rw [List.length_cons]; omega

theorem ofNat_toNat (c : UInt8) : UInt8.ofNat (c.toNat + 1 - 1) = c := by
  rw [Nat.add_sub_cancel]; exact UInt8.ofNat_toNat
theorem dec_enc (l : List UInt8) (n : Nat) (out : List UInt8) (i : Nat) (h : out.length + n + l.length ≤ 65536) :
    decG (encG l n) out [] i = (out ++ List.replicate n 0 ++ l, i + (encG l n).length, 0) := by
  induction l generalizing n out i with
  | nil =>
    rw [encG, decG_feed _ _ _ _ _ (dg_lt n), List.nil_append, decG, num_dg]
    simp at h
    rw [if_neg (by decide), if_neg (by omega), if_neg (by decide), if_pos rfl]
    simp; omega
  | cons c l ih =>
    rw [List.length_cons] at h
    rw [encG]
    split
    · rename_i hc
      subst hc
      rw [ih _ _ _ (by omega), List.replicate_succ']
      simp
    · rename_i hc
      have h0 : c.toNat ≠ 0 := fun e => hc (by apply UInt8.toNat_inj.1; simpa using e)
      have h1 := c.toNat_lt
      rw [decG_feed _ _ _ _ _ (dg_lt n), List.nil_append, decG, num_dg]
      rw [if_neg (by omega), if_neg (by omega), if_neg (by omega), if_neg (by omega), if_neg (by omega), ofNat_toNat, ih _ _ _ (by simp; omega)]
      simp; omega

theorem enc_zeros (k : Nat) (c : UInt8) (hc : c ≠ 0) (u : List UInt8) (m : Nat) : encG (List.replicate k 0 ++ c :: u) m = dg (m + k) ++ (c.toNat + 1) :: encG u 0 := by
  induction k generalizing m with
  | zero => rw [List.replicate_zero, List.nil_append, encG, if_neg hc]; rfl
  | succ k ih => rw [List.replicate_succ, List.cons_append, encG, if_pos rfl, ih]; congr 2; omega
theorem enc_zeros_end (k m : Nat) : encG (List.replicate k 0) m = dg (m + k) ++ [257] := by
  induction k generalizing m with
  | zero => rfl
  | succ k ih => rw [List.replicate_succ, encG, if_pos rfl, ih]; congr 2; omega

theorem decG_none (l : List Nat) (out : List UInt8) (run : List Nat) (i : Nat) (h : (decG l out run i).2.2 ≠ 0) : (decG l out run i).1 = [] ∧ (decG l out run i).2.1 = 0 := by
  induction l generalizing out run i with
  | nil => rw [decG]; split <;> exact ⟨rfl, rfl⟩
  | cons x l ih =>
    rw [decG] at h ⊢
    by_cases h1 : x < 2
    · rw [if_pos h1] at h ⊢; exact ih _ _ _ h
    · rw [if_neg h1] at h ⊢
      by_cases h2 : 65536 < out.length + num run
      · rw [if_pos h2]; exact ⟨rfl, rfl⟩
      · rw [if_neg h2] at h ⊢
        by_cases h3 : 257 < x
        · rw [if_pos h3]; exact ⟨rfl, rfl⟩
        · rw [if_neg h3] at h ⊢
          by_cases h4 : x = 257
          · rw [if_pos h4] at h; exact absurd rfl h
          · rw [if_neg h4] at h ⊢
            by_cases h5 : out.length + num run = 65536
            · rw [if_pos h5]; exact ⟨rfl, rfl⟩
            · rw [if_neg h5] at h ⊢; exact ih _ _ _ h

theorem enc_dec (l : List Nat) (out : List UInt8) (run : List Nat) (i : Nat) (E : List Nat) (t : List UInt8) (n : Nat) (hrun : ∀ d ∈ run, d < 2) (hE : ∀ u, encG (out ++ u) 0 = E ++ encG u 0) (ho : out.length ≤ 65536)
    (h : decG l out run i = (t, n, 0)) : t.length ≤ 65536 ∧ i < n ∧ n ≤ i + l.length ∧ encG t 0 = E ++ run ++ l.take (n - i) := by
  induction l generalizing out run i E with
  | nil => rw [decG] at h; split at h <;> (simp at h)
  | cons x l ih =>
    rw [decG] at h
    by_cases h1 : x < 2
    · rw [if_pos h1] at h
      obtain ⟨a, b, c, d⟩ := ih out (run ++ [x]) (i + 1) E (by
        intro e he
        rcases List.mem_append.1 he with he | he
        · exact hrun e he
        · rw [List.mem_singleton.1 he]; exact h1) hE ho h
      refine ⟨a, by omega, by rw [List.length_cons]; omega, ?_⟩
      rw [d, show n - i = (n - (i + 1)) + 1 by omega, List.take_succ_cons]
      simp
    · rw [if_neg h1] at h
      by_cases h2 : 65536 < out.length + num run
      · rw [if_pos h2] at h; simp at h
      · rw [if_neg h2] at h
        by_cases h3 : 257 < x
        · rw [if_pos h3] at h; simp at h
        · rw [if_neg h3] at h
          by_cases h4 : x = 257
          · rw [if_pos h4] at h
            simp only [Prod.mk.injEq] at h
            obtain ⟨h, h', _⟩ := h
            subst h h' h4
            refine ⟨by simp; omega, by omega, by rw [List.length_cons]; omega, ?_⟩
            rw [hE, enc_zeros_end, Nat.zero_add, dg_num hrun, show i + 1 - i = 0 + 1 by omega, List.take_succ_cons]
            simp
          · rw [if_neg h4] at h
            by_cases h5 : out.length + num run = 65536
            · rw [if_pos h5] at h; simp at h
            · rw [if_neg h5] at h
              have hx : (UInt8.ofNat (x - 1)).toNat = x - 1 := by rw [UInt8.toNat_ofNat', Nat.mod_eq_of_lt (by omega)]
              have hne : UInt8.ofNat (x - 1) ≠ 0 := fun e => by rw [e] at hx; simp at hx; omega
              obtain ⟨a, b, c, d⟩ := ih (out ++ List.replicate (num run) 0 ++ [UInt8.ofNat (x - 1)]) [] (i + 1) (E ++ run ++ [x]) (by simp) (by
                intro u
                rw [List.append_assoc, List.append_assoc, hE, List.singleton_append, enc_zeros _ _ hne, Nat.zero_add, dg_num hrun, hx, show x - 1 + 1 = x by omega]
                simp) (by simp; omega) h
              refine ⟨a, by omega, by rw [List.length_cons]; omega, ?_⟩
              rw [d, show n - i = (n - (i + 1)) + 1 by omega, List.take_succ_cons]
              simp

/-! ### what the four functions tell -/
def digR (n : Nat) : List Nat × Int := if n < 1 ∨ 65536 < n then ([], 1) else (dg n, 0)
def numR (l : List Nat) : Nat × Int := if l = [] ∨ ∃ x ∈ l, 2 ≤ x then (0, 7) else if 65536 < num l then (0, 8) else (num l, 0)
def encR (l : List UInt8) : List Nat × Int := if 65536 < l.length then ([], 1) else (encG l 0, 0)
def decR (l : List Nat) : List UInt8 × Nat × Int := decG l [] [] 0

theorem encR_le (l : List UInt8) : ∀ x ∈ (encR l).1, x < 18446744073709551616 := by
  intro x hx
  unfold encR at hx
  split at hx
  · simp at hx
  · have := encG_small l 0 x hx; omega
theorem encR_small (l : List UInt8) (h : (encR l).2 = 0) : l.length ≤ 65536 := by
  unfold encR at h
  split at h
  · simp at h
  · omega
theorem numR_digR (n : Nat) (h : (digR n).2 = 0) : numR (digR n).1 = (n, 0) ∧ (digR n).1 = dg n ∧ 1 ≤ n ∧ n ≤ 65536 := by
  unfold digR at h ⊢
  by_cases h1 : n < 1 ∨ 65536 < n
  · rw [if_pos h1] at h; simp at h
  · rw [if_neg h1]
    refine ⟨?_, rfl, by omega, by omega⟩
    unfold numR
    have hne : dg n ≠ [] := by rw [dg_pos (by omega)]; simp
    have hlt := dg_lt n
    simp only
    rw [if_neg (fun h => h.elim hne (fun ⟨x, hx, h⟩ => by have := hlt x hx; omega)), num_dg, if_neg (by omega)]
theorem digR_numR (l : List Nat) (h : (numR l).2 = 0) : digR (numR l).1 = (l, 0) := by
  unfold numR at h ⊢
  by_cases h1 : l = [] ∨ ∃ x ∈ l, 2 ≤ x
  · rw [if_pos h1] at h; simp at h
  · rw [if_neg h1] at h ⊢
    by_cases h2 : 65536 < num l
    · rw [if_pos h2] at h; simp at h
    · rw [if_neg h2]
      simp only
      have hlt : ∀ x ∈ l, x < 2 := fun x hx => by
        rcases Nat.lt_or_ge x 2 with h | h
        · exact h
        · exact absurd (.inr ⟨x, hx, h⟩) h1
      have hpos : 1 ≤ num l := by
        cases l with
        | nil => exact absurd (.inl rfl) h1
        | cons d l => rw [num]; omega
      unfold digR
      rw [if_neg (by omega), dg_num hlt]
theorem numR_none (l : List Nat) (h : (numR l).2 ≠ 0) : (numR l).1 = 0 := by
  unfold numR at h ⊢
  split
  · rfl
  · rename_i h1
    rw [if_neg h1] at h
    split
    · rfl
    · rename_i h2
      rw [if_neg h2] at h
      exact absurd rfl h
theorem decR_encR (l : List UInt8) (h : (encR l).2 = 0) : decR (encR l).1 = (l, (encR l).1.length, 0) ∧ (encR l).1.length ≤ l.length + 1 := by
  unfold encR at h ⊢
  by_cases h1 : 65536 < l.length
  · rw [if_pos h1] at h; simp at h
  · rw [if_neg h1]
    refine ⟨?_, ?_⟩
    · unfold decR
      rw [dec_enc l 0 [] 0 (by simp; omega)]
      simp
    · have := encG_length l 0
      simp only
      omega
theorem encR_decR (l : List Nat) (h : (decR l).2.2 = 0) : encR (decR l).1 = (l.take (decR l).2.1, 0) ∧ 1 ≤ (decR l).2.1 ∧ (decR l).2.1 ≤ l.length := by
  obtain ⟨a, b, c, d⟩ := enc_dec l [] [] 0 [] (decR l).1 (decR l).2.1 (by simp) (by simp) (by simp) (show decG l [] [] 0 = _ by
    rw [← h]; rfl)
  refine ⟨?_, by omega, by omega⟩
  unfold encR
  rw [if_neg (by omega), d]
  simp
theorem decR_none (l : List Nat) (h : (decR l).2.2 ≠ 0) : (decR l).1 = [] ∧ (decR l).2.1 = 0 := decG_none l [] [] 0 h
/-- a number's bits, and one, less 1 -/
theorem dg_half {k : Nat} (h : 1 < k) : (dg (k - 1)).length = (dg (k / 2 - 1)).length + 1 := by
  rw [dg_pos (by omega), List.length_cons, show (k - 1 - 1) / 2 = k / 2 - 1 by omega]
end Go.Proofs.YtidmmcgnghdfdaaDoor.ZerosPlain
