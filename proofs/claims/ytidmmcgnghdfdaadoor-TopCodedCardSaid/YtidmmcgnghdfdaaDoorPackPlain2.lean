/- The plain law of package-merge: more levels cost no more; nine bits are enough; each leaf has a length. -/
import Derived.Test.YtidmmcgnghdfdaaDoorPackPlain
namespace Go.Proofs.YtidmmcgnghdfdaaDoor.PackPlain

def wts (l : List It) : List Nat := l.map It.w
def SrtN (l : List Nat) : Prop := l.Pairwise (· ≤ ·)
def SrtP (ps : List (Nat × Nat)) : Prop := ps.Pairwise (fun a b => a.1 ≤ b.1)

theorem mem_lv (l : List Nat) (k : Nat) : wts (lv l k) = l := by
  induction l generalizing k with
  | nil => rfl
  | cons x l ih => show x :: wts (lv l (k + 1)) = _; rw [ih]
theorem wts_packs (ps : List (Nat × Nat)) : wts (ps.map fun p => It.pack p.1 p.2) = ps.map (·.1) := by simp [wts, It.w]
theorem mem_mrg (ls : List Nat) (k : Nat) (ps : List (Nat × Nat)) : ∀ w ∈ wts (mrg ls k ps), w ∈ ls ∨ w ∈ ps.map (·.1) :=
  mrg_ind (P := fun ls k ps => ∀ w ∈ wts (mrg ls k ps), w ∈ ls ∨ w ∈ ps.map (·.1))
    (fun k ps w hw => by rw [mrg_nil, wts_packs] at hw; exact .inr hw)
    (fun ls k w hw => by rw [mrg_none, mem_lv] at hw; exact .inl hw)
    (fun x ls k p ps hx ih w hw => by
      rw [mrg_leaf hx] at hw
      rcases List.mem_cons.1 hw with rfl | hw
      · exact .inl (by simp [It.w])
      · rcases ih w hw with h | h
        · exact .inl (by simp [h])
        · exact .inr h)
    (fun x ls k p ps hx ih w hw => by
      rw [mrg_pack hx] at hw
      rcases List.mem_cons.1 hw with rfl | hw
      · exact .inr (by simp [It.w])
      · rcases ih w hw with h | h
        · exact .inl h
        · exact .inr (by simp only [List.map_cons]; exact List.mem_cons_of_mem _ h)) _ ls k ps (Nat.le_refl _)
theorem mrg_sorted (ls : List Nat) (k : Nat) (ps : List (Nat × Nat)) : SrtN ls → SrtP ps → SrtN (wts (mrg ls k ps)) :=
  mrg_ind (P := fun ls k ps => SrtN ls → SrtP ps → SrtN (wts (mrg ls k ps)))
    (fun k ps _ h => by rw [mrg_nil, wts_packs]; exact List.pairwise_map.2 h)
    (fun ls k h _ => by rw [mrg_none, mem_lv]; exact h)
    (fun x ls k p ps hx ih h1 h2 => by
      rw [mrg_leaf hx]
      obtain ⟨h3, h4⟩ := List.pairwise_cons.1 h1
      refine List.pairwise_cons.2 ⟨fun w hw => ?_, ih h4 h2⟩
      rcases mem_mrg _ _ _ w hw with h | h
      · exact h3 w h
      · refine Nat.le_trans hx ?_
        simp only [List.map_cons, List.mem_cons] at h
        rcases h with rfl | h
        · exact Nat.le_refl _
        · obtain ⟨q, hq, rfl⟩ := List.mem_map.1 h
          exact (List.pairwise_cons.1 h2).1 q hq)
    (fun x ls k p ps hx ih h1 h2 => by
      rw [mrg_pack hx]
      obtain ⟨h3, h4⟩ := List.pairwise_cons.1 h2
      refine List.pairwise_cons.2 ⟨fun w hw => ?_, ih h1 h4⟩
      have hx' : p.1 ≤ x := by omega
      rcases mem_mrg _ _ _ w hw with h | h
      · refine Nat.le_trans hx' ?_
        rcases List.mem_cons.1 h with rfl | h
        · exact Nat.le_refl _
        · exact (List.pairwise_cons.1 h1).1 w h
      · obtain ⟨q, hq, rfl⟩ := List.mem_map.1 h
        exact h3 q hq) _ ls k ps (Nat.le_refl _)
theorem count_mrg (f : Nat → Bool) (ls : List Nat) (k : Nat) (ps : List (Nat × Nat)) : (wts (mrg ls k ps)).countP f = ls.countP f + (ps.map (·.1)).countP f :=
  mrg_ind (P := fun ls k ps => (wts (mrg ls k ps)).countP f = ls.countP f + (ps.map (·.1)).countP f)
    (fun k ps => by rw [mrg_nil, wts_packs]; simp)
    (fun ls k => by rw [mrg_none, mem_lv]; simp)
    (fun x ls k p ps hx ih => by
      rw [mrg_leaf hx]
      show (x :: wts (mrg ls (k + 1) (p :: ps))).countP f = _
      rw [List.countP_cons, List.countP_cons, ih]; omega)
    (fun x ls k p ps hx ih => by
      rw [mrg_pack hx]
      show (p.1 :: wts (mrg (x :: ls) k ps)).countP f = _
      simp only [List.map_cons, List.countP_cons] at ih ⊢; omega) _ ls k ps (Nat.le_refl _)

/-- sums of two -/
def pw : List Nat → List Nat
  | x :: y :: l => (x + y) :: pw l
  | _ => []
theorem pks_pw : ∀ (l : List It) (i : Nat), (pks l i).map (·.1) = pw (wts l)
  | [], _ => rfl
  | [_], _ => rfl
  | x :: y :: l, i => by
    rw [pks_cons, List.map_cons, pks_pw l]; rfl
theorem pw_mem : ∀ (l : List Nat) (v : Nat), (∀ z ∈ l, v ≤ z) → ∀ p ∈ pw l, 2 * v ≤ p
  | [], _, _, p, hp => by cases hp
  | [_], _, _, p, hp => by cases hp
  | x :: y :: l, v, h, p, hp => by
    rcases List.mem_cons.1 hp with rfl | hp
    · have := h x (by simp); have := h y (by simp); omega
    · exact pw_mem l v (fun z hz => h z (by simp [hz])) p hp
theorem pw_sorted : ∀ (l : List Nat), SrtN l → SrtN (pw l)
  | [], _ => List.Pairwise.nil
  | [_], _ => List.Pairwise.nil
  | x :: y :: l, h => by
    obtain ⟨h1, h2⟩ := List.pairwise_cons.1 h
    obtain ⟨h3, h4⟩ := List.pairwise_cons.1 h2
    refine List.pairwise_cons.2 ⟨fun p hp => ?_, pw_sorted l h4⟩
    have := pw_mem l y h3 p hp
    have := h1 y (by simp)
    omega
theorem srtP_of {ps : List (Nat × Nat)} (h : SrtN (ps.map (·.1))) : SrtP ps := List.pairwise_map.1 h
theorem lev_sorted {ws : List Nat} (h : SrtN ws) : ∀ j, SrtN (wts (lev ws j))
  | 0 => mrg_sorted _ _ _ h List.Pairwise.nil
  | j + 1 => mrg_sorted _ _ _ h (srtP_of (by rw [pks_pw]; exact pw_sorted _ (lev_sorted h j)))
theorem pks_sorted {ws : List Nat} (h : SrtN ws) (j : Nat) : SrtP (pks (lev ws j) 0) := srtP_of (by rw [pks_pw]; exact pw_sorted _ (lev_sorted h j))

/-! ### more levels, no more weight -/
structure PD (l m : List Nat) : Prop where
  len : l.length ≤ m.length
  le : ∀ i (h : i < l.length), m[i]'(by omega) ≤ l[i]
theorem PD.count {l m : List Nat} (h : PD l m) (v : Nat) : l.countP (· ≤ v) ≤ m.countP (· ≤ v) := by
  induction l generalizing m with
  | nil => simp
  | cons x l ih =>
    cases m with
    | nil => have := h.len; simp at this
    | cons y m =>
      have h0 : y ≤ x := h.le 0 (by simp)
      have h1 : PD l m := ⟨by have := h.len; simpa using this, fun i hi => by have := h.le (i + 1) (by simpa using hi); simpa using this⟩
      rw [List.countP_cons, List.countP_cons]
      have := ih h1
      by_cases hx : x ≤ v
      · rw [if_pos (by simpa using hx), if_pos (by simp; omega)]; omega
      · rw [if_neg (by simpa using hx)]; omega
theorem count_take_le (l : List Nat) (f : Nat → Bool) (n : Nat) : (l.take n).countP f ≤ l.countP f := by
  conv => rhs; rw [← List.take_append_drop n l, List.countP_append]
  omega
theorem PD.of_count {l m : List Nat} (hl : SrtN l) (hm : SrtN m) (h : ∀ v, l.countP (· ≤ v) ≤ m.countP (· ≤ v)) : PD l m := by
  have key : ∀ i (hi : i < l.length), ∃ h : i < m.length, m[i] ≤ l[i] := by
    intro i hi
    have h1 : (l.take (i + 1)).countP (· ≤ l[i]) = i + 1 := by
      have : (l.take (i + 1)).countP (· ≤ l[i]) = (l.take (i + 1)).length := by
        rw [List.countP_eq_length]
        intro a ha
        obtain ⟨j, hj, rfl⟩ := List.getElem_of_mem ha
        simp at hj
        rw [List.getElem_take]
        rcases Nat.lt_or_eq_of_le (show j ≤ i by omega) with h2 | h2
        · simpa using List.pairwise_iff_getElem.1 hl j i (by omega) hi h2
        · subst h2; simp
      rw [this, List.length_take]; omega
    have h2 := count_take_le l (· ≤ l[i]) (i + 1)
    have h3 := h l[i]
    have h4 : i + 1 ≤ m.countP (· ≤ l[i]) := by omega
    have hlen : i < m.length := by have := List.countP_le_length (p := fun x => decide (x ≤ l[i])) (l := m); omega
    refine ⟨hlen, ?_⟩
    rcases Nat.lt_or_ge l[i] m[i] with h5 | h5
    · exfalso
      have h6 : (m.drop i).countP (· ≤ l[i]) = 0 := by
        rw [List.countP_eq_zero]
        intro a ha
        obtain ⟨j, hj, rfl⟩ := List.getElem_of_mem ha
        rw [List.length_drop] at hj
        rw [List.getElem_drop]
        have : m[i] ≤ m[i + j] := by
          rcases Nat.eq_zero_or_pos j with h0 | h0
          · subst h0; exact Nat.le_refl _
          · exact List.pairwise_iff_getElem.1 hm i (i + j) hlen (by omega) (by omega)
        simp; omega
      have h7 : m.countP (· ≤ l[i]) ≤ i := by
        conv => lhs; rw [← List.take_append_drop i m, List.countP_append, h6]
        have := List.countP_le_length (p := fun x => decide (x ≤ l[i])) (l := m.take i)
        rw [List.length_take] at this
        omega
      omega
    · exact h5
  refine ⟨?_, fun i hi => (key i hi).2⟩
  rcases Nat.eq_zero_or_pos l.length with h0 | h0
  · omega
  · obtain ⟨h1, _⟩ := key (l.length - 1) (by omega)
    omega
theorem PD.pw : ∀ {l m : List Nat}, PD l m → PD (pw l) (pw m)
  | [], m, _ => ⟨Nat.zero_le _, fun i h => by simp [PackPlain.pw] at h⟩
  | [_], m, _ => ⟨Nat.zero_le _, fun i h => by simp [PackPlain.pw] at h⟩
  | x :: y :: l, [], h => by have := h.len; simp at this
  | x :: y :: l, [_], h => by have := h.len; simp at this
  | x :: y :: l, x' :: y' :: m, h => by
    have h0 : x' ≤ x := h.le 0 (by simp)
    have h1 : y' ≤ y := h.le 1 (by simp)
    have h2 : PD l m := ⟨by have := h.len; simpa using this, fun i hi => by have := h.le (i + 2) (by simpa using hi); simpa using this⟩
    have ih := PD.pw h2
    refine ⟨by show (PackPlain.pw l).length + 1 ≤ (PackPlain.pw m).length + 1; have := ih.len; omega, fun i hi => ?_⟩
    cases i with
    | zero => show x' + y' ≤ x + y; omega
    | succ i => exact ih.le i (by simpa [PackPlain.pw] using hi)
theorem PD.mrg {ws : List Nat} {ps qs : List (Nat × Nat)} (hw : SrtN ws) (hp : SrtP ps) (hq : SrtP qs) (h : ∀ v, (ps.map (·.1)).countP (· ≤ v) ≤ (qs.map (·.1)).countP (· ≤ v)) (k : Nat) : PD (wts (mrg ws k ps)) (wts (mrg ws k qs)) :=
  PD.of_count (mrg_sorted _ _ _ hw hp) (mrg_sorted _ _ _ hw hq) fun v => by rw [count_mrg, count_mrg]; have := h v; omega
theorem lev_pd {ws : List Nat} (hw : SrtN ws) : ∀ j, PD (wts (lev ws j)) (wts (lev ws (j + 1)))
  | 0 => PD.mrg hw List.Pairwise.nil (pks_sorted hw 0) (fun v => by simp) 0
  | j + 1 => PD.mrg hw (pks_sorted hw j) (pks_sorted hw (j + 1)) (fun v => by rw [pks_pw, pks_pw]; exact (lev_pd hw j).pw.count v) 0
theorem sumW_wts (l : List It) : sumW l = (wts l).sum := by
  induction l with
  | nil => rfl
  | cons x l ih => show x.w + sumW l = (x.w :: wts l).sum; rw [ih, List.sum_cons]
theorem PD.sum : ∀ {l m : List Nat} (N : Nat), PD l m → N ≤ l.length → (m.take N).sum ≤ (l.take N).sum
  | _, _, 0, _, _ => by simp
  | [], _, N + 1, _, h => by simp at h
  | x :: l, [], N + 1, h, _ => by have := h.len; simp at this
  | x :: l, y :: m, N + 1, h, hN => by
    have h0 : y ≤ x := h.le 0 (by simp)
    have h2 : PD l m := ⟨by have := h.len; simpa using this, fun i hi => by have := h.le (i + 1) (by simpa using hi); simpa using this⟩
    have := PD.sum N h2 (by simpa using hN)
    rw [List.take_succ_cons, List.take_succ_cons, List.sum_cons, List.sum_cons]; omega
theorem lev_len_le (ws : List Nat) (hw : SrtN ws) (j : Nat) : (lev ws j).length ≤ (lev ws (j + 1)).length := by
  have := (lev_pd hw j).len
  simpa [wts] using this
/-- what the first N items of a level weigh -/
def T (ws : List Nat) (j N : Nat) : Nat := sumW ((lev ws j).take N)
theorem T_mono {ws : List Nat} (hw : SrtN ws) (j N : Nat) (h : N ≤ (lev ws j).length) : T ws (j + 1) N ≤ T ws j N := by
  unfold T
  rw [sumW_wts, sumW_wts]
  have := (lev_pd hw j).sum N (by simpa [wts] using h)
  simpa [wts, List.map_take] using this
theorem T_anti {ws : List Nat} (hw : SrtN ws) (N i : Nat) (h : N ≤ (lev ws i).length) : ∀ d, N ≤ (lev ws (i + d)).length ∧ T ws (i + d) N ≤ T ws i N
  | 0 => ⟨h, Nat.le_refl _⟩
  | d + 1 => by
    obtain ⟨h1, h2⟩ := T_anti hw N i h d
    exact ⟨Nat.le_trans h1 (lev_len_le ws hw (i + d)), Nat.le_trans (T_mono hw (i + d) N h1) h2⟩

/-! ### what the counts cost -/
def dot : List Nat → (Nat → Nat) → Nat
  | [], _ => 0
  | w :: l, f => w * f 0 + dot l (fun k => f (k + 1))
theorem dot_add (l : List Nat) (f g : Nat → Nat) : dot l (fun k => f k + g k) = dot l f + dot l g := by
  induction l generalizing f g with
  | nil => rfl
  | cons w l ih => rw [dot, dot, dot, ih, Nat.mul_add]; omega
theorem dot_ind (l : List Nat) (t : Nat) (f : Nat → Nat) (h : ∀ k, k < l.length → f k = if k < t then 1 else 0) : dot l f = (l.take t).sum := by
  induction l generalizing t f with
  | nil => simp [dot]
  | cons w l ih =>
    have h0 := h 0 (by simp)
    cases t with
    | zero =>
      rw [dot, h0, if_neg (by omega), ih 0 (fun k => f (k + 1)) (fun k hk => by rw [h (k + 1) (by simpa using hk)]; simp)]
      simp
    | succ t =>
      rw [dot, h0, if_pos (by omega), ih t (fun k => f (k + 1)) (fun k hk => by rw [h (k + 1) (by simpa using hk)]; simp), List.take_succ_cons, List.sum_cons]
      omega
theorem dot_le (l : List Nat) (f : Nat → Nat) (c : Nat) (h : ∀ k, f k ≤ c) : dot l f ≤ c * l.sum := by
  induction l generalizing f with
  | nil => simp [dot]
  | cons w l ih =>
    rw [dot, List.sum_cons, Nat.mul_add]
    have h1 := ih (fun k => f (k + 1)) (fun k => h (k + 1))
    have h2 : w * f 0 ≤ w * c := Nat.mul_le_mul_left _ (h 0)
    rw [Nat.mul_comm w c] at h2
    omega
theorem sum_pks : ∀ (l : List It) (i p : Nat), p ≤ l.length / 2 → (((pks l i).take p).map (·.1)).sum = sumW (l.take (2 * p))
  | _, _, 0, _ => by simp [sumW]
  | [], _, p + 1, h => by simp at h
  | [_], _, p + 1, h => by simp at h
  | x :: y :: l, i, p + 1, h => by
    rw [pks_cons, List.take_succ_cons, List.map_cons, List.sum_cons, sum_pks l (i + 2) p (by simp only [List.length_cons] at h; omega), show 2 * (p + 1) = 2 * p + 1 + 1 by omega, List.take_succ_cons, List.take_succ_cons, sumW, sumW]
    omega
theorem cnt_cost {ws : List Nat} (hw : SrtN ws) : ∀ (j N : Nat), N ≤ (lev ws j).length → dot ws (cnt ws j N) = T ws j N
  | 0, N, h => by
    obtain ⟨t, p, hp⟩ := pre_ex ws 0 [] hw List.Pairwise.nil N (by rw [lev_length_zero] at h; simpa using h)
    have hs := hp.sw
    have e : p = 0 := by have := hp.hp; simpa using this
    subst e
    rw [dot_ind ws t (cnt ws 0 N) (fun k hk => by
      show occ k ((lev ws 0).take N) = _
      have := hp.oc k
      rw [show (lev ws 0) = mrg ws 0 [] from rfl, this]
      simp)]
    show _ = sumW ((mrg ws 0 []).take N)
    rw [hs]; simp
  | j + 1, N, h => by
    obtain ⟨t, p, hp⟩ := pre_ex ws 0 (pks (lev ws j) 0) hw (pks_sorted hw j) N (by rw [lev_length_succ] at h; rw [pks_length]; exact h)
    have hpl : p ≤ (lev ws j).length / 2 := by have := hp.hp; rwa [pks_length] at this
    have e : cnt ws (j + 1) N = fun k => occ k ((lev ws (j + 1)).take N) + cnt ws j (2 * p) k := by
      funext k
      show occ k _ + cnt ws j (2 * npk ((mrg ws 0 (pks (lev ws j) 0)).take N)) k = _
      rw [hp.pk]
    rw [e, dot_add, cnt_cost hw j (2 * p) (by omega), dot_ind ws t (fun k => occ k ((lev ws (j + 1)).take N)) (fun k hk => by
      show occ k ((mrg ws 0 (pks (lev ws j) 0)).take N) = _
      rw [hp.oc k]; simp)]
    show _ = sumW ((mrg ws 0 (pks (lev ws j) 0)).take N)
    rw [hp.sw, sum_pks _ _ _ hpl]
    rfl
theorem occ_le {ws : List Nat} (hw : SrtN ws) (j N k : Nat) (h : N ≤ (lev ws j).length) : occ k ((lev ws j).take N) ≤ 1 := by
  have key : ∀ ps, SrtP ps → N ≤ ws.length + ps.length → occ k ((mrg ws 0 ps).take N) ≤ 1 := fun ps hs hN => by
    obtain ⟨t, p, hp⟩ := pre_ex ws 0 ps hw hs N hN
    rw [hp.oc k]; split <;> omega
  cases j with
  | zero => exact key [] List.Pairwise.nil (by rw [lev_length_zero] at h; simpa using h)
  | succ j => exact key _ (pks_sorted hw j) (by rw [lev_length_succ] at h; rw [pks_length]; exact h)
theorem npk_le {ws : List Nat} (hw : SrtN ws) (j N : Nat) (h : N ≤ (lev ws (j + 1)).length) : 2 * npk ((lev ws (j + 1)).take N) ≤ (lev ws j).length := by
  obtain ⟨t, p, hp⟩ := pre_ex ws 0 (pks (lev ws j) 0) hw (pks_sorted hw j) N (by rw [lev_length_succ] at h; rw [pks_length]; exact h)
  have hpl : p ≤ (lev ws j).length / 2 := by have := hp.hp; rwa [pks_length] at this
  show 2 * npk ((mrg ws 0 (pks (lev ws j) 0)).take N) ≤ _
  rw [hp.pk]; omega
theorem cnt_le {ws : List Nat} (hw : SrtN ws) : ∀ (j N k : Nat), N ≤ (lev ws j).length → cnt ws j N k ≤ j + 1
  | 0, N, k, h => occ_le hw 0 N k h
  | j + 1, N, k, h => by
    have h1 := occ_le hw (j + 1) N k h
    have h2 := cnt_le hw j (2 * npk ((lev ws (j + 1)).take N)) k (npk_le hw j N h)
    show occ k _ + _ ≤ _
    omega
theorem pw_count : ∀ (l : List Nat) (v : Nat), 2 * (pw l).countP (· < v) ≤ l.countP (· < v)
  | [], _ => by simp [pw]
  | [_], _ => by simp [pw]
  | x :: y :: l, v => by
    have ih := pw_count l v
    show 2 * ((x + y) :: pw l).countP _ ≤ _
    rw [List.countP_cons, List.countP_cons, List.countP_cons]
    by_cases h : x + y < v
    · rw [if_pos (by simpa using h), if_pos (by simp; omega), if_pos (by simp; omega)]; omega
    · rw [if_neg (by simpa using h)]; omega
theorem lev_count (ws : List Nat) (v : Nat) : ∀ j, (wts (lev ws j)).countP (· < v) ≤ 2 * ws.countP (· < v) - 1 ∨ ws.countP (· < v) = 0 ∧ (wts (lev ws j)).countP (· < v) = 0
  | 0 => by
    show (wts (mrg ws 0 [])).countP _ ≤ _ ∨ _ ∧ (wts (mrg ws 0 [])).countP _ = 0
    rw [count_mrg]
    simp only [List.map_nil, List.countP_nil]
    omega
  | j + 1 => by
    have ih := lev_count ws v j
    have h := pw_count (wts (lev ws j)) v
    show (wts (mrg ws 0 (pks (lev ws j) 0))).countP _ ≤ _ ∨ _ ∧ (wts (mrg ws 0 (pks (lev ws j) 0))).countP _ = 0
    rw [count_mrg, pks_pw]
    omega
/-- the last level's first ones hold all leaves -/
theorem top_all {ws : List Nat} (hw : SrtN ws) (hn : 2 ≤ ws.length) (j : Nat) (h : 2 * ws.length - 2 ≤ (lev ws j).length) (k : Nat) (hk : k < ws.length) : occ k ((lev ws j).take (2 * ws.length - 2)) = 1 := by
  have key : ∀ ps, SrtP ps → 2 * ws.length - 2 ≤ ws.length + ps.length → (∀ v, (ps.map (·.1)).countP (· < v) ≤ ws.countP (· < v) - 1) → occ k ((mrg ws 0 ps).take (2 * ws.length - 2)) = 1 := fun ps hs hN hc => by
    obtain ⟨t, p, hp⟩ := pre_ex ws 0 ps hw hs _ hN
    rcases Nat.lt_or_ge t ws.length with ht | ht
    · exfalso
      have hsum := hp.sum
      have hp0 : 0 < p := by omega
      obtain ⟨h1, h2⟩ := hp.lt ht hp0
      have hlast : ws[t] ≤ ws[ws.length - 1] := by
        rcases Nat.lt_or_eq_of_le (show t ≤ ws.length - 1 by omega) with h3 | h3
        · exact List.pairwise_iff_getElem.1 hw t (ws.length - 1) ht (by omega) h3
        · simp [h3]
      have hv := hc ws[ws.length - 1]
      -- at least p packages are less
      have h4 : p ≤ (ps.map (·.1)).countP (· < ws[ws.length - 1]) := by
        have h5 := count_take_le (ps.map (·.1)) (· < ws[ws.length - 1]) p
        have h6 : ((ps.map (·.1)).take p).countP (· < ws[ws.length - 1]) = p := by
          have : ((ps.map (·.1)).take p).countP (· < ws[ws.length - 1]) = ((ps.map (·.1)).take p).length := by
            rw [List.countP_eq_length]
            intro a ha
            obtain ⟨i, hi, rfl⟩ := List.getElem_of_mem ha
            simp at hi
            rw [List.getElem_take, List.getElem_map]
            have : ps[i].1 ≤ ps[p - 1].1 := by
              rcases Nat.lt_or_eq_of_le (show i ≤ p - 1 by omega) with h7 | h7
              · exact List.pairwise_iff_getElem.1 hs i (p - 1) (by omega) h1 h7
              · simp [h7]
            simp; omega
          rw [this]; simp; have := hp.hp; omega
        omega
      -- and fewer than all leaves are
      have h8 : ws.countP (· < ws[ws.length - 1]) ≤ ws.length - 1 := by
        have e : ws = ws.take (ws.length - 1) ++ [ws[ws.length - 1]] := by
          have := List.take_succ_eq_append_getElem (l := ws) (i := ws.length - 1) (by omega)
          rw [show ws.length - 1 + 1 = ws.length by omega, List.take_length] at this
          exact this
        generalize ws[ws.length - 1] = v at e
        have h9 : ws.countP (· < v) = (ws.take (ws.length - 1)).countP (· < v) := by
          conv => lhs; rw [e]
          rw [List.countP_append]
          simp
        rw [h9]
        have := List.countP_le_length (p := fun x => decide (x < v)) (l := ws.take (ws.length - 1))
        rw [List.length_take] at this
        omega
      omega
    · have hte : t = ws.length := by have := hp.ht; omega
      rw [hp.oc k, if_pos (by omega)]
  cases j with
  | zero => exact key [] List.Pairwise.nil (by rw [lev_length_zero] at h; simpa using h) (fun v => by simp)
  | succ j =>
    refine key _ (pks_sorted hw j) (by rw [lev_length_succ] at h; rw [pks_length]; exact h) (fun v => ?_)
    rw [pks_pw]
    have h1 := lev_count ws v j
    have h2 := pw_count (wts (lev ws j)) v
    omega
theorem cnt_ge {ws : List Nat} (hw : SrtN ws) (hn : 2 ≤ ws.length) (j : Nat) (h : 2 * ws.length - 2 ≤ (lev ws j).length) (k : Nat) (hk : k < ws.length) : 1 ≤ cnt ws j (2 * ws.length - 2) k := by
  have := top_all hw hn j h k hk
  cases j with
  | zero => show 1 ≤ occ k _; omega
  | succ j => show 1 ≤ occ k _ + _; omega

/-- more levels cost no more -/
theorem cost_anti {ws : List Nat} (hw : SrtN ws) (i d : Nat) (h : ws.length ≤ 2 ^ (i + 1)) : dot ws (cnt ws (i + d) (2 * ws.length - 2)) ≤ dot ws (cnt ws i (2 * ws.length - 2)) := by
  have h1 := lev_ge ws i h
  obtain ⟨h2, h3⟩ := T_anti hw (2 * ws.length - 2) i h1 d
  rw [cnt_cost hw _ _ h2, cnt_cost hw _ _ h1]
  exact h3
/-- nine bits each are enough for 512 -/
theorem cost_nine {ws : List Nat} (hw : SrtN ws) (h : ws.length ≤ 512) : dot ws (cnt ws 14 (2 * ws.length - 2)) ≤ 9 * ws.sum := by
  have h1 : ws.length ≤ 2 ^ (8 + 1) := by simpa using h
  have h2 := cost_anti hw 8 6 h1
  have h3 := dot_le ws (cnt ws 8 (2 * ws.length - 2)) 9 (fun k => cnt_le hw 8 _ k (lev_ge ws 8 h1))
  exact Nat.le_trans h2 h3
end Go.Proofs.YtidmmcgnghdfdaaDoor.PackPlain
