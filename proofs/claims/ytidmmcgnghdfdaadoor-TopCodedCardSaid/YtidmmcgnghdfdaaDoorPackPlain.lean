/- The plain law of package-merge: levels of packages, counts of leaves, what they cost; no program. -/
namespace Go.Proofs.YtidmmcgnghdfdaaDoor.PackPlain

/-- an item: a leaf (weight, place), or a package of two (weight, the first one's place) -/
inductive It where
  | leaf (w k : Nat)
  | pack (w i : Nat)
def It.w : It → Nat
  | .leaf w _ => w
  | .pack w _ => w
def It.isPack : It → Bool
  | .leaf _ _ => false
  | .pack _ _ => true
/-- packages of a level's items, from place i on -/
def pks : List It → Nat → List (Nat × Nat)
  | x :: y :: l, i => (x.w + y.w, i) :: pks l (i + 2)
  | _, _ => []
theorem pks_nil (i : Nat) : pks [] i = [] := rfl
theorem pks_one (x : It) (i : Nat) : pks [x] i = [] := rfl
theorem pks_cons (x y : It) (l : List It) (i : Nat) : pks (x :: y :: l) i = (x.w + y.w, i) :: pks l (i + 2) := rfl
def lv : List Nat → Nat → List It
  | [], _ => []
  | w :: l, k => .leaf w k :: lv l (k + 1)
/-- leaves from place k on, and packages, merged; of alike ones leaves first -/
def mrg (ls : List Nat) (k : Nat) (ps : List (Nat × Nat)) : List It :=
  match ls, ps with
  | [], ps => ps.map fun p => .pack p.1 p.2
  | ls, [] => lv ls k
  | x :: ls, p :: ps => if x ≤ p.1 then .leaf x k :: mrg ls (k + 1) (p :: ps) else .pack p.1 p.2 :: mrg (x :: ls) k ps
termination_by ls.length + ps.length
theorem mrg_nil (k : Nat) (ps : List (Nat × Nat)) : mrg [] k ps = ps.map fun p => .pack p.1 p.2 := by rw [mrg]
theorem mrg_none (ls : List Nat) (k : Nat) : mrg ls k [] = lv ls k := by
  cases ls with
  | nil => rw [mrg]; rfl
  | cons x l => rw [mrg]; simp
theorem mrg_leaf {x : Nat} {ls : List Nat} {k : Nat} {p : Nat × Nat} {ps : List (Nat × Nat)} (h : x ≤ p.1) : mrg (x :: ls) k (p :: ps) = .leaf x k :: mrg ls (k + 1) (p :: ps) := by rw [mrg, if_pos h]
theorem mrg_pack {x : Nat} {ls : List Nat} {k : Nat} {p : Nat × Nat} {ps : List (Nat × Nat)} (h : ¬ x ≤ p.1) : mrg (x :: ls) k (p :: ps) = .pack p.1 p.2 :: mrg (x :: ls) k ps := by rw [mrg, if_neg h]
theorem mrg_pack' {k : Nat} {p : Nat × Nat} {ps : List (Nat × Nat)} : mrg [] k (p :: ps) = .pack p.1 p.2 :: mrg [] k ps := by rw [mrg_nil, mrg_nil]; rfl
theorem lv_length (l : List Nat) (k : Nat) : (lv l k).length = l.length := by
  induction l generalizing k with
  | nil => rfl
  | cons x l ih => rw [lv, List.length_cons, ih, List.length_cons]

theorem mrg_ind {P : List Nat → Nat → List (Nat × Nat) → Prop} (h1 : ∀ k ps, P [] k ps) (h2 : ∀ ls k, P ls k [])
    (h3 : ∀ x ls k p ps, x ≤ p.1 → P ls (k + 1) (p :: ps) → P (x :: ls) k (p :: ps)) (h4 : ∀ x ls k p ps, ¬ x ≤ p.1 → P (x :: ls) k ps → P (x :: ls) k (p :: ps)) :
    ∀ (n : Nat) (ls : List Nat) (k : Nat) (ps : List (Nat × Nat)), ls.length + ps.length ≤ n → P ls k ps := by
  intro n
  induction n with
  | zero =>
    intro ls k ps h
    have : ls = [] := List.length_eq_zero_iff.1 (by omega)
    subst this
    exact h1 _ _
  | succ n ih =>
    intro ls k ps h
    match ls, ps with
    | [], ps => exact h1 _ _
    | x :: ls, [] => exact h2 _ _
    | x :: ls, p :: ps =>
      simp only [List.length_cons] at h
      by_cases hx : x ≤ p.1
      · exact h3 _ _ _ _ _ hx (ih _ _ _ (by simp only [List.length_cons]; omega))
      · exact h4 _ _ _ _ _ hx (ih _ _ _ (by simp only [List.length_cons]; omega))
theorem mrg_length (ls : List Nat) (k : Nat) (ps : List (Nat × Nat)) : (mrg ls k ps).length = ls.length + ps.length :=
  mrg_ind (P := fun ls k ps => (mrg ls k ps).length = ls.length + ps.length)
    (fun k ps => by rw [mrg_nil]; simp) (fun ls k => by rw [mrg_none, lv_length]; simp)
    (fun x ls k p ps h ih => by rw [mrg_leaf h, List.length_cons, ih]; simp; omega) (fun x ls k p ps h ih => by rw [mrg_pack h, List.length_cons, ih]; simp; omega) _ ls k ps (Nat.le_refl _)
theorem pks_length : ∀ (l : List It) (i : Nat), (pks l i).length = l.length / 2
  | [], _ => rfl
  | [_], _ => by simp [pks_one]
  | x :: y :: l, i => by rw [pks_cons, List.length_cons, pks_length l]; simp only [List.length_cons]; omega

/-- the level behind one -/
def nxt (ws : List Nat) (l : List It) : List It := mrg ws 0 (pks l 0)
/-- the levels: the first one has leaves alone -/
def lev (ws : List Nat) : Nat → List It
  | 0 => nxt ws []
  | j + 1 => nxt ws (lev ws j)
theorem lev_length_zero (ws : List Nat) : (lev ws 0).length = ws.length := by
  show (mrg ws 0 []).length = _
  rw [mrg_length]; rfl
theorem lev_length_succ (ws : List Nat) (j : Nat) : (lev ws (j + 1)).length = ws.length + (lev ws j).length / 2 := by
  show (mrg ws 0 (pks (lev ws j) 0)).length = _
  rw [mrg_length, pks_length]
/-- there are enough items on the last level -/
theorem lev_enough (ws : List Nat) (j : Nat) : 2 * ws.length ≤ (lev ws j).length + (ws.length + 2 ^ j - 1) / 2 ^ j := by
  induction j with
  | zero => rw [lev_length_zero]; simp; omega
  | succ j ih =>
    rw [lev_length_succ]
    have hp : 0 < 2 ^ j := Nat.pow_pos (by decide)
    have e : (ws.length + 2 ^ (j + 1) - 1) / 2 ^ (j + 1) = ((ws.length + 2 ^ j - 1) / 2 ^ j + 1) / 2 := by
      rw [Nat.pow_succ, ← Nat.div_div_eq_div_mul, show ws.length + 2 ^ j * 2 - 1 = (ws.length + 2 ^ j - 1) + 2 ^ j by omega, Nat.add_div_right _ hp]
    rw [e]
    omega
theorem lev_ge (ws : List Nat) (j : Nat) (h : ws.length ≤ 2 ^ (j + 1)) : 2 * ws.length - 2 ≤ (lev ws j).length := by
  have h1 := lev_enough ws j
  have hp : 0 < 2 ^ j := Nat.pow_pos (by decide)
  have h2 : (ws.length + 2 ^ j - 1) / 2 ^ j ≤ 2 := by
    rw [Nat.pow_succ] at h
    have : (ws.length + 2 ^ j - 1) / 2 ^ j < 3 := by
      rw [Nat.div_lt_iff_lt_mul hp]; omega
    omega
  omega

/-! ### counts -/
def occ (k : Nat) : List It → Nat
  | [] => 0
  | .leaf _ j :: l => (if j = k then 1 else 0) + occ k l
  | .pack _ _ :: l => occ k l
def npk : List It → Nat
  | [] => 0
  | .leaf _ _ :: l => npk l
  | .pack _ _ :: l => npk l + 1
def sumW : List It → Nat
  | [] => 0
  | x :: l => x.w + sumW l
/-- how often a leaf is in the first N items of level j, and in what they are made of -/
def cnt (ws : List Nat) : Nat → Nat → Nat → Nat
  | 0, N, k => occ k ((lev ws 0).take N)
  | j + 1, N, k => occ k ((lev ws (j + 1)).take N) + cnt ws j (2 * npk ((lev ws (j + 1)).take N)) k
/-- a prefix of a merge: t leaves, p packages -/
structure Pre (ls : List Nat) (k : Nat) (ps : List (Nat × Nat)) (N t p : Nat) : Prop where
  sum : t + p = N
  ht : t ≤ ls.length
  hp : p ≤ ps.length
  pk : npk ((mrg ls k ps).take N) = p
  oc : ∀ j, occ j ((mrg ls k ps).take N) = if k ≤ j ∧ j < k + t then 1 else 0
  sw : sumW ((mrg ls k ps).take N) = (ls.take t).sum + ((ps.take p).map (·.1)).sum
  /-- the last package of it is less than the first leaf behind it -/
  lt : ∀ (h1 : t < ls.length) (h2 : 0 < p), ∃ h : p - 1 < ps.length, ps[p - 1].1 < ls[t]
  /-- the last leaf of it is at most the first package behind it -/
  le : ∀ (h1 : p < ps.length) (h2 : 0 < t), ∃ h : t - 1 < ls.length, ls[t - 1] ≤ ps[p].1

theorem npk_lv (l : List Nat) (k N : Nat) : npk ((lv l k).take N) = 0 := by
  induction l generalizing k N with
  | nil => simp [lv, npk]
  | cons x l ih =>
    cases N with
    | zero => simp [npk]
    | succ N => rw [lv, List.take_succ_cons, npk, ih]
theorem occ_lv (l : List Nat) (k N j : Nat) (hN : N ≤ l.length) : occ j ((lv l k).take N) = if k ≤ j ∧ j < k + N then 1 else 0 := by
  induction l generalizing k N with
  | nil =>
    have : N = 0 := by simpa using hN
    subst this
    simp [lv, occ]
  | cons x l ih =>
    cases N with
    | zero => simp [occ]
    | succ N =>
      rw [List.length_cons] at hN
      rw [lv, List.take_succ_cons, occ, ih _ _ (by omega)]
      by_cases h1 : k = j
      · subst h1; rw [if_pos rfl, if_neg (by omega), if_pos (by omega)]
      · rw [if_neg h1]
        by_cases h2 : k + 1 ≤ j ∧ j < k + 1 + N
        · rw [if_pos h2, if_pos (by omega)]
        · rw [if_neg h2, if_neg (by omega)]
theorem sumW_lv (l : List Nat) (k N : Nat) : sumW ((lv l k).take N) = (l.take N).sum := by
  induction l generalizing k N with
  | nil => simp [lv, sumW]
  | cons x l ih =>
    cases N with
    | zero => simp [sumW]
    | succ N => rw [lv, List.take_succ_cons, sumW, ih, List.take_succ_cons, List.sum_cons]; rfl
theorem npk_packs (ps : List (Nat × Nat)) (N : Nat) (hN : N ≤ ps.length) : npk ((ps.map fun p => It.pack p.1 p.2).take N) = N := by
  induction ps generalizing N with
  | nil => have : N = 0 := by simpa using hN
           subst this; rfl
  | cons p ps ih =>
    cases N with
    | zero => rfl
    | succ N => rw [List.map_cons, List.take_succ_cons, npk, ih _ (by simpa using hN)]
theorem occ_packs (ps : List (Nat × Nat)) (N j : Nat) : occ j ((ps.map fun p => It.pack p.1 p.2).take N) = 0 := by
  induction ps generalizing N with
  | nil => simp [occ]
  | cons p ps ih =>
    cases N with
    | zero => rfl
    | succ N => rw [List.map_cons, List.take_succ_cons, occ, ih]
theorem sumW_packs (ps : List (Nat × Nat)) (N : Nat) : sumW ((ps.map fun p => It.pack p.1 p.2).take N) = ((ps.take N).map (·.1)).sum := by
  induction ps generalizing N with
  | nil => simp [sumW]
  | cons p ps ih =>
    cases N with
    | zero => rfl
    | succ N => rw [List.map_cons, List.take_succ_cons, sumW, ih, List.take_succ_cons, List.map_cons, List.sum_cons]; rfl

theorem pre_zero (ls : List Nat) (k : Nat) (ps : List (Nat × Nat)) : Pre ls k ps 0 0 0 :=
  ⟨rfl, Nat.zero_le _, Nat.zero_le _, rfl, fun j => by rw [if_neg (by omega)]; rfl, rfl, fun _ h => by omega, fun _ h => by omega⟩

theorem pre_ex (ls : List Nat) (k : Nat) (ps : List (Nat × Nat)) : ls.Pairwise (· ≤ ·) → ps.Pairwise (fun a b => a.1 ≤ b.1) → ∀ N, N ≤ ls.length + ps.length → ∃ t p, Pre ls k ps N t p :=
  mrg_ind (P := fun ls k ps => ls.Pairwise (· ≤ ·) → ps.Pairwise (fun a b => a.1 ≤ b.1) → ∀ N, N ≤ ls.length + ps.length → ∃ t p, Pre ls k ps N t p)
    (fun k ps _ _ N hN => ⟨0, N, by
      have hN' : N ≤ ps.length := by simpa using hN
      exact ⟨by omega, Nat.le_refl _, hN', by rw [mrg_nil]; exact npk_packs ps N hN', fun j => by rw [mrg_nil, occ_packs, if_neg (by omega)], by rw [mrg_nil, sumW_packs]; simp, fun h => by simp at h, fun _ h => by omega⟩⟩)
    (fun ls k _ _ N hN => ⟨N, 0, by
      have hN' : N ≤ ls.length := by simpa using hN
      exact ⟨by omega, hN', Nat.le_refl _, by rw [mrg_none]; exact npk_lv ls k N, fun j => by rw [mrg_none, occ_lv ls k N j hN'], by rw [mrg_none, sumW_lv]; simp, fun _ h => by omega, fun h => by simp at h⟩⟩)
    (fun x ls k p ps hx ih h1 h2 N hN => by
      cases N with
      | zero => exact ⟨0, 0, pre_zero _ _ _⟩
      | succ N =>
        obtain ⟨h3, h4⟩ := List.pairwise_cons.1 h1
        obtain ⟨t, q, hp⟩ := ih h4 h2 N (by simp only [List.length_cons] at hN ⊢; omega)
        refine ⟨t + 1, q, ⟨by have := hp.sum; omega, by have := hp.ht; simp only [List.length_cons]; omega, hp.hp, ?_, ?_, ?_, ?_, ?_⟩⟩
        · rw [mrg_leaf hx, List.take_succ_cons, npk]; exact hp.pk
        · intro j
          rw [mrg_leaf hx, List.take_succ_cons, occ, hp.oc j]
          by_cases hkj : k = j
          · subst hkj; rw [if_pos rfl, if_neg (by omega), if_pos (by omega)]
          · rw [if_neg hkj]
            by_cases h5 : k + 1 ≤ j ∧ j < k + 1 + t
            · rw [if_pos h5, if_pos (by omega)]
            · rw [if_neg h5, if_neg (by omega)]
        · rw [mrg_leaf hx, List.take_succ_cons, sumW, hp.sw, List.take_succ_cons, List.sum_cons]
          simp only [It.w]; omega
        · intro h5 h6
          simp only [List.length_cons] at h5
          obtain ⟨h7, h8⟩ := hp.lt (by omega) h6
          exact ⟨h7, by simpa using h8⟩
        · intro h5 _
          refine ⟨by have := hp.ht; simp only [List.length_cons]; omega, ?_⟩
          rcases Nat.eq_zero_or_pos t with h0 | h0
          · subst h0
            simp only [Nat.zero_add, Nat.sub_self, List.getElem_cons_zero]
            refine Nat.le_trans hx ?_
            cases q with
            | zero => simp
            | succ q =>
              simp only [List.getElem_cons_succ]
              exact (List.pairwise_cons.1 h2).1 _ (List.getElem_mem _)
          · obtain ⟨h7, h8⟩ := hp.le h5 h0
            have e : (x :: ls)[t + 1 - 1]'(by have := hp.ht; simp only [List.length_cons]; omega) = ls[t - 1] := by
              obtain ⟨u, rfl⟩ : ∃ u, t = u + 1 := ⟨t - 1, by omega⟩
              simp
            rw [e]; exact h8)
    (fun x ls k p ps hx ih h1 h2 N hN => by
      cases N with
      | zero => exact ⟨0, 0, pre_zero _ _ _⟩
      | succ N =>
        obtain ⟨h3, h4⟩ := List.pairwise_cons.1 h2
        obtain ⟨t, q, hp⟩ := ih h1 h4 N (by simp only [List.length_cons] at hN ⊢; omega)
        refine ⟨t, q + 1, ⟨by have := hp.sum; omega, hp.ht, by have := hp.hp; simp only [List.length_cons]; omega, ?_, ?_, ?_, ?_, ?_⟩⟩
        · rw [mrg_pack hx, List.take_succ_cons, npk, hp.pk]
        · intro j
          rw [mrg_pack hx, List.take_succ_cons, occ]; exact hp.oc j
        · rw [mrg_pack hx, List.take_succ_cons, sumW, hp.sw, List.take_succ_cons, List.map_cons, List.sum_cons]
          simp only [It.w]; omega
        · intro h5 _
          refine ⟨by have := hp.hp; simp only [List.length_cons]; omega, ?_⟩
          rcases Nat.eq_zero_or_pos q with h0 | h0
          · subst h0
            simp only [Nat.zero_add, Nat.sub_self, List.getElem_cons_zero]
            have hx' : p.1 < x := by omega
            refine Nat.lt_of_lt_of_le hx' ?_
            cases t with
            | zero => simp
            | succ t =>
              simp only [List.getElem_cons_succ]
              exact (List.pairwise_cons.1 h1).1 _ (List.getElem_mem _)
          · obtain ⟨h7, h8⟩ := hp.lt h5 h0
            have e : (p :: ps)[q + 1 - 1]'(by have := hp.hp; simp only [List.length_cons]; omega) = ps[q - 1] := by
              obtain ⟨u, rfl⟩ : ∃ u, q = u + 1 := ⟨q - 1, by omega⟩
              simp
            rw [e]; exact h8
        · intro h5 h6
          simp only [List.length_cons] at h5
          obtain ⟨h7, h8⟩ := hp.le (by omega) h6
          exact ⟨h7, by simpa using h8⟩) _ ls k ps (Nat.le_refl _)
end Go.Proofs.YtidmmcgnghdfdaaDoor.PackPlain
