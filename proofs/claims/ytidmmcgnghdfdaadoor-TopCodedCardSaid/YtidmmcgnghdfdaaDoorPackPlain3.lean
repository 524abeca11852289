/- The plain law of package-merge: the codes fill all room. -/
import Derived.Test.YtidmmcgnghdfdaaDoorPackPlain2
namespace Go.Proofs.YtidmmcgnghdfdaaDoor.PackPlain

theorem occ_mem (k : Nat) : ∀ l : List It, 1 ≤ occ k l → ∃ w, It.leaf w k ∈ l
  | [], h => by simp [occ] at h
  | .leaf w j :: l, h => by
    by_cases hj : j = k
    · subst hj; exact ⟨w, by simp⟩
    · rw [occ, if_neg hj, Nat.zero_add] at h
      obtain ⟨w', hw⟩ := occ_mem k l h
      exact ⟨w', List.mem_cons_of_mem _ hw⟩
  | .pack _ _ :: l, h => by
    rw [occ] at h
    obtain ⟨w', hw⟩ := occ_mem k l h
    exact ⟨w', List.mem_cons_of_mem _ hw⟩
theorem lv_w : ∀ (l : List Nat) (k w i : Nat), It.leaf w i ∈ lv l k → k ≤ i ∧ l[i - k]? = some w
  | [], k, w, i, h => by simp [lv] at h
  | x :: l, k, w, i, h => by
    rw [lv] at h
    rcases List.mem_cons.1 h with h | h
    · injection h with h1 h2
      subst h1 h2
      simp
    · obtain ⟨h1, h2⟩ := lv_w l (k + 1) w i h
      refine ⟨by omega, ?_⟩
      obtain ⟨u, rfl⟩ : ∃ u, i = k + 1 + u := ⟨i - (k + 1), by omega⟩
      rw [show k + 1 + u - k = u + 1 by omega, List.getElem?_cons_succ]
      rw [show k + 1 + u - (k + 1) = u by omega] at h2
      exact h2
theorem mrg_w (ls : List Nat) (k : Nat) (ps : List (Nat × Nat)) : ∀ w i, It.leaf w i ∈ mrg ls k ps → k ≤ i ∧ ls[i - k]? = some w :=
  mrg_ind (P := fun ls k ps => ∀ w i, It.leaf w i ∈ mrg ls k ps → k ≤ i ∧ ls[i - k]? = some w)
    (fun k ps w i h => by rw [mrg_nil] at h; obtain ⟨p, _, hp⟩ := List.mem_map.1 h; cases hp)
    (fun ls k w i h => by rw [mrg_none] at h; exact lv_w ls k w i h)
    (fun x ls k p ps hx ih w i h => by
      rw [mrg_leaf hx] at h
      rcases List.mem_cons.1 h with h | h
      · injection h with h1 h2
        subst h1 h2
        simp
      · obtain ⟨h1, h2⟩ := ih w i h
        refine ⟨by omega, ?_⟩
        obtain ⟨u, rfl⟩ : ∃ u, i = k + 1 + u := ⟨i - (k + 1), by omega⟩
        rw [show k + 1 + u - k = u + 1 by omega, List.getElem?_cons_succ]
        rw [show k + 1 + u - (k + 1) = u by omega] at h2
        exact h2)
    (fun x ls k p ps hx ih w i h => by
      rw [mrg_pack hx] at h
      rcases List.mem_cons.1 h with h | h
      · cases h
      · exact ih w i h) _ ls k ps (Nat.le_refl _)
theorem lev_w (ws : List Nat) (j w i : Nat) (h : It.leaf w i ∈ lev ws j) : ws[i]? = some w := by
  cases j with
  | zero => simpa using (mrg_w ws 0 [] w i h).2
  | succ j => simpa using (mrg_w ws 0 (pks (lev ws j) 0) w i h).2
theorem pks_ge : ∀ (l : List It) (i0 p : Nat), p ≤ l.length / 2 → ∀ x ∈ l.take (2 * p), ∃ y ∈ (pks l i0).take p, x.w ≤ y.1
  | _, _, 0, _, x, hx => by simp at hx
  | [], _, p + 1, h, x, hx => by simp at hx
  | [_], _, p + 1, h, x, hx => by simp at h
  | a :: b :: l, i0, p + 1, h, x, hx => by
    rw [show 2 * (p + 1) = 2 * p + 1 + 1 by omega, List.take_succ_cons, List.take_succ_cons] at hx
    rw [pks_cons, List.take_succ_cons]
    rcases List.mem_cons.1 hx with rfl | hx
    · exact ⟨_, List.mem_cons_self, by show _ ≤ _ + _; omega⟩
    · rcases List.mem_cons.1 hx with rfl | hx
      · exact ⟨_, List.mem_cons_self, by show _ ≤ _ + _; omega⟩
      · obtain ⟨y, hy, hl⟩ := pks_ge l (i0 + 2) p (by simp only [List.length_cons] at h; omega) x hx
        exact ⟨y, List.mem_cons_of_mem _ hy, hl⟩
/-- a leaf that is in a level's first ones is in the next one's -/
theorem nested {ws : List Nat} (hw : SrtN ws) (j N t p : Nat) (hp : Pre ws 0 (pks (lev ws j) 0) N t p) (k : Nat) (h : 1 ≤ occ k ((lev ws j).take (2 * p))) : k < t := by
  obtain ⟨w, hm⟩ := occ_mem k _ h
  have hws := lev_w ws j w k (List.mem_of_mem_take hm)
  have hpl : p ≤ (lev ws j).length / 2 := by have := hp.hp; rwa [pks_length] at this
  obtain ⟨y, hy, hle⟩ := pks_ge (lev ws j) 0 p hpl _ hm
  obtain ⟨hk, hwk⟩ := List.getElem?_eq_some_iff.1 hws
  rcases Nat.lt_or_ge k t with h1 | h1
  · exact h1
  · exfalso
    have hp0 : 0 < p := by
      rcases Nat.eq_zero_or_pos p with h0 | h0
      · subst h0; simp at hy
      · exact h0
    obtain ⟨h2, h3⟩ := hp.lt (by omega) hp0
    obtain ⟨q, hq, rfl⟩ := List.getElem_of_mem hy
    rw [List.length_take] at hq
    rw [List.getElem_take] at hle
    have hs := pks_sorted hw j
    have h4 : (pks (lev ws j) 0)[q].1 ≤ (pks (lev ws j) 0)[p - 1].1 := by
      rcases Nat.lt_or_eq_of_le (show q ≤ p - 1 by omega) with h7 | h7
      · exact List.pairwise_iff_getElem.1 hs q (p - 1) (by omega) h2 h7
      · simp [h7]
    have h5 : ws[t] ≤ ws[k] := by
      rcases Nat.lt_or_eq_of_le h1 with h7 | h7
      · exact List.pairwise_iff_getElem.1 hw t k (by omega) hk h7
      · simp [h7]
    have h6 : w ≤ (pks (lev ws j) 0)[q].1 := hle
    omega
/-- a leaf that is had at all is had at the last level -/
theorem cnt_top {ws : List Nat} (hw : SrtN ws) : ∀ (j N k : Nat), N ≤ (lev ws j).length → 1 ≤ cnt ws j N k → 1 ≤ occ k ((lev ws j).take N)
  | 0, N, k, _, h => h
  | j + 1, N, k, hN, h => by
    obtain ⟨t, p, hp⟩ := pre_ex ws 0 (pks (lev ws j) 0) hw (pks_sorted hw j) N (by rw [lev_length_succ] at hN; rw [pks_length]; exact hN)
    have ho : occ k ((lev ws (j + 1)).take N) = if 0 ≤ k ∧ k < 0 + t then 1 else 0 := hp.oc k
    have hn : npk ((lev ws (j + 1)).take N) = p := hp.pk
    have hpl : p ≤ (lev ws j).length / 2 := by have := hp.hp; rwa [pks_length] at this
    have hc : cnt ws (j + 1) N k = occ k ((lev ws (j + 1)).take N) + cnt ws j (2 * p) k := by
      show _ + cnt ws j (2 * npk ((lev ws (j + 1)).take N)) k = _
      rw [hn]
    rcases Nat.eq_zero_or_pos (cnt ws j (2 * p) k) with h0 | h0
    · omega
    · have h1 := nested hw j N t p hp k (cnt_top hw j (2 * p) k (by omega) h0)
      rw [ho, if_pos (by omega)]
      omega
def ksum (f : Nat → Nat) : Nat → Nat
  | 0 => 0
  | k + 1 => ksum f k + f k
theorem ksum_add {f g h : Nat → Nat} : ∀ n, (∀ k, k < n → f k = g k + h k) → ksum f n = ksum g n + ksum h n
  | 0, _ => rfl
  | n + 1, e => by
    rw [ksum, ksum, ksum, ksum_add n (fun k hk => e k (by omega)), e n (by omega)]; omega
theorem ksum_first (c t : Nat) : ∀ n, ksum (fun k => if k < t then c else 0) n = min n t * c
  | 0 => by simp [ksum]
  | n + 1 => by
    rw [ksum, ksum_first c t n]
    by_cases h : n < t
    · rw [if_pos h, show min n t = n by omega, show min (n + 1) t = n + 1 by omega, Nat.succ_mul]
    · rw [if_neg h, show min n t = t by omega, show min (n + 1) t = t by omega, Nat.add_zero]
theorem ksum_congr {f g : Nat → Nat} : ∀ n, (∀ k, k < n → f k = g k) → ksum f n = ksum g n
  | 0, _ => rfl
  | n + 1, e => by rw [ksum, ksum, ksum_congr n (fun k hk => e k (by omega)), e n (by omega)]
/-- what the codes of the first N items leave -/
theorem kraft_lev {ws : List Nat} (hw : SrtN ws) : ∀ (j N : Nat), N ≤ (lev ws j).length → ksum (fun k => 2 ^ (j + 1) - 2 ^ (j + 1 - cnt ws j N k)) ws.length = N * 2 ^ j
  | 0, N, h => by
    obtain ⟨t, p, hp⟩ := pre_ex ws 0 [] hw List.Pairwise.nil N (by rw [lev_length_zero] at h; simpa using h)
    have e : p = 0 := by have := hp.hp; simpa using this
    subst e
    have hs := hp.sum
    have ht := hp.ht
    rw [ksum_congr (g := fun k => if k < t then 1 else 0) _ (fun k hk => by
      have : cnt ws 0 N k = if 0 ≤ k ∧ k < 0 + t then 1 else 0 := hp.oc k
      rw [this]
      by_cases hkt : k < t
      · rw [if_pos (by omega), if_pos hkt]
      · rw [if_neg (by omega), if_neg hkt]), ksum_first]
    rw [show min ws.length t = t by omega]
    simp; omega
  | j + 1, N, h => by
    obtain ⟨t, p, hp⟩ := pre_ex ws 0 (pks (lev ws j) 0) hw (pks_sorted hw j) N (by rw [lev_length_succ] at h; rw [pks_length]; exact h)
    have hn : npk ((lev ws (j + 1)).take N) = p := hp.pk
    have hpl : p ≤ (lev ws j).length / 2 := by have := hp.hp; rwa [pks_length] at this
    have hs := hp.sum
    have ht := hp.ht
    rw [ksum_add (g := fun k => if k < t then 2 ^ (j + 1) else 0) (h := fun k => 2 ^ (j + 1) - 2 ^ (j + 1 - cnt ws j (2 * p) k)) _ (fun k hk => ?_), ksum_first, kraft_lev hw j (2 * p) (by omega), show min ws.length t = t by omega]
    · rw [← hs, Nat.add_mul, Nat.pow_succ, show 2 * p * 2 ^ j = p * (2 ^ j * 2) by rw [Nat.mul_comm 2 p, Nat.mul_assoc, Nat.mul_comm 2]]
    · have ho : occ k ((lev ws (j + 1)).take N) = if 0 ≤ k ∧ k < 0 + t then 1 else 0 := hp.oc k
      have hc : cnt ws (j + 1) N k = occ k ((lev ws (j + 1)).take N) + cnt ws j (2 * p) k := by
        show _ + cnt ws j (2 * npk ((lev ws (j + 1)).take N)) k = _
        rw [hn]
      have hcl := cnt_le hw j (2 * p) k (by omega)
      show 2 ^ (j + 1 + 1) - 2 ^ (j + 1 + 1 - cnt ws (j + 1) N k) = (if k < t then 2 ^ (j + 1) else 0) + (2 ^ (j + 1) - 2 ^ (j + 1 - cnt ws j (2 * p) k))
      by_cases hkt : k < t
      · rw [hc, ho, if_pos (by omega), if_pos hkt, show j + 1 + 1 - (1 + cnt ws j (2 * p) k) = j + 1 - cnt ws j (2 * p) k by omega, Nat.pow_succ 2 (j + 1)]
        have : 2 ^ (j + 1 - cnt ws j (2 * p) k) ≤ 2 ^ (j + 1) := Nat.pow_le_pow_right (by omega) (by omega)
        omega
      · have h0 : cnt ws j (2 * p) k = 0 := by
          rcases Nat.eq_zero_or_pos (cnt ws j (2 * p) k) with h0 | h0
          · exact h0
          · exact absurd (nested hw j N t p hp k (cnt_top hw j (2 * p) k (by omega) h0)) hkt
        rw [hc, ho, if_neg (by omega), if_neg hkt, h0]
        simp
theorem ksum_sub (f : Nat → Nat) (m : Nat) : ∀ n, (∀ k, k < n → f k ≤ m) → ksum (fun k => m - f k) n + ksum f n = n * m
  | 0, _ => by simp [ksum]
  | n + 1, h => by
    have ih := ksum_sub f m n (fun k hk => h k (by omega))
    have := h n (by omega)
    rw [ksum, ksum, Nat.succ_mul]
    omega
/-- the codes fill all room -/
theorem kraft_full {ws : List Nat} (hw : SrtN ws) (hn : 2 ≤ ws.length) (j : Nat) (h : 2 * ws.length - 2 ≤ (lev ws j).length) :
    ksum (fun k => 2 ^ (j + 1 - cnt ws j (2 * ws.length - 2) k)) ws.length = 2 ^ (j + 1) := by
  have h1 := kraft_lev hw j _ h
  have h2 := ksum_sub (fun k => 2 ^ (j + 1 - cnt ws j (2 * ws.length - 2) k)) (2 ^ (j + 1)) ws.length (fun k _ => Nat.pow_le_pow_right (by omega) (by omega))
  obtain ⟨m, hm⟩ : ∃ m, ws.length = m + 1 := ⟨ws.length - 1, by omega⟩
  rw [show 2 * ws.length - 2 = m * 2 by omega] at h1 h2 ⊢
  rw [h1] at h2
  rw [hm] at h2 ⊢
  rw [Nat.succ_mul, Nat.pow_succ, show m * 2 * 2 ^ j = m * (2 ^ j * 2) by rw [Nat.mul_assoc, Nat.mul_comm 2]] at h2
  rw [Nat.pow_succ]
  omega
end Go.Proofs.YtidmmcgnghdfdaaDoor.PackPlain
