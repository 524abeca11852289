/- The plain law of rows of 256 bytes: what is moved to the front, and back; no program. -/
import Derived.Lib.Bytealg
namespace Go.Proofs.Yteopmojpnebjfaa.MtfPlain
open Go.Lib
/-- The plain law of rows of bytes. -/
def full (r : List UInt8) : Prop := r.length = 256 ∧ ∀ c : UInt8, c ∈ r

def allB : List UInt8 := (List.range 256).map UInt8.ofNat

theorem allB_length : allB.length = 256 := by simp [allB]
theorem mem_allB (c : UInt8) : c ∈ allB := by
  refine List.mem_map.2 ⟨c.toNat, List.mem_range.2 c.toNat_lt, by simp⟩
theorem nodup_allB : allB.Nodup := by decide +kernel

theorem nodup_of_full {r : List UInt8} (h : full r) : r.Nodup := by
  obtain ⟨hl, hm⟩ := h
  rw [List.nodup_iff_count]
  intro a
  refine Decidable.byContradiction fun hc => ?_
  have hc2 : 2 ≤ r.count a := by omega
  have hsub : allB ⊆ r.erase a := by
    intro c _
    by_cases hca : c = a
    · subst hca
      have : 0 < (r.erase c).count c := by rw [List.count_erase_self]; omega
      exact List.count_pos_iff.1 this
    · exact (List.mem_erase_of_ne hca).2 (hm c)
  have h1 := List.Nodup.length_le_of_subset nodup_allB hsub
  rw [allB_length, List.length_erase_of_mem (hm a)] at h1
  omega

theorem full_of_nodup {r : List UInt8} (hl : r.length = 256) (h : r.Nodup) : full r := by
  refine ⟨hl, fun c => ?_⟩
  refine Decidable.byContradiction fun hc => ?_
  have h1 := List.Nodup.length_le_of_subset (l₁ := c :: r) (l₂ := allB) (List.nodup_cons.2 ⟨hc, h⟩) (fun x _ => mem_allB x)
  rw [allB_length] at h1
  simp at h1
  omega

def fullB (r : List UInt8) : Bool := r.length == 256 && allB.all (fun c => r.contains c)
theorem fullB_iff {r : List UInt8} : fullB r = true ↔ full r := by
  unfold fullB full
  simp only [Bool.and_eq_true, beq_iff_eq, List.all_eq_true, List.contains_iff_mem]
  exact ⟨fun h => ⟨h.1, fun c => h.2 c (mem_allB c)⟩, fun h => ⟨h.1, fun c _ => h.2 c⟩⟩

/-- what Check tells -/
def chk (r : List UInt8) : Int := if fullB r then 0 else 2

theorem chk_cases (r : List UInt8) : (chk r = 0 ∧ full r) ∨ (chk r = 2 ∧ ¬ full r) := by
  unfold chk
  by_cases h : fullB r = true
  · exact .inl ⟨by simp [h], fullB_iff.1 h⟩
  · exact .inr ⟨by simp [h], fun hf => h (fullB_iff.2 hf)⟩

/-- where a byte is -/
def idx (r : List UInt8) (c : UInt8) : Nat := (indexByte r c).toNat

theorem indexByte_mem {r : List UInt8} {c : UInt8} (h : c ∈ r) : 0 ≤ indexByte r c ∧ r[idx r c]? = some c := by
  induction r with
  | nil => cases h
  | cons b l ih =>
    unfold idx
    unfold indexByte
    by_cases hb : (b == c) = true
    · have : b = c := by simpa using hb
      simp [this]
    · have hne : b ≠ c := by simpa using hb
      have hm : c ∈ l := by
        cases h with
        | head => exact absurd rfl hne
        | tail _ h => exact h
      obtain ⟨h1, h2⟩ := ih hm
      have h3 : (indexByte l c == -1) = false := by rw [beq_eq_false_iff_ne]; omega
      rw [if_neg hb, h3]
      refine ⟨by simp; omega, ?_⟩
      have h4 : (indexByte l c + 1).toNat = idx l c + 1 := by unfold idx; omega
      simp only [Bool.false_eq_true, if_false]
      rw [h4, List.getElem?_cons_succ]
      exact h2

theorem indexByte_not_mem {r : List UInt8} {c : UInt8} (h : c ∉ r) : indexByte r c = -1 := by
  induction r with
  | nil => rfl
  | cons b l ih =>
    have hb : (b == c) = false := by
      rw [beq_eq_false_iff_ne]; rintro rfl; exact h (List.mem_cons_self ..)
    unfold indexByte
    rw [hb, ih (fun hm => h (List.mem_cons_of_mem _ hm))]
    rfl

theorem idx_full {r : List UInt8} (h : full r) (c : UInt8) : indexByte r c = (idx r c : Int) ∧ idx r c < 256 ∧ r[idx r c]? = some c := by
  obtain ⟨h1, h2⟩ := indexByte_mem (h.2 c)
  have h3 : idx r c < r.length := by
    refine Decidable.byContradiction fun hc => ?_
    rw [List.getElem?_eq_none (by omega)] at h2
    cases h2
  rw [h.1] at h3
  exact ⟨by unfold idx; omega, h3, h2⟩

theorem idx_unique {r : List UInt8} (h : full r) {c : UInt8} {i : Nat} (hi : r[i]? = some c) : idx r c = i := by
  have hn := nodup_of_full h
  have hlt : i < r.length := by
    refine Decidable.byContradiction fun hc => ?_
    rw [List.getElem?_eq_none (by omega)] at hi
    cases hi
  obtain ⟨_, h2, h3⟩ := idx_full h c
  exact ((List.getElem?_inj hlt hn).1 (hi.trans h3.symm)).symm

/-- the byte at a place goes to the front -/
def front (r : List UInt8) (i : Nat) : List UInt8 := (r.drop i).take 1 ++ (r.take i ++ r.drop (i + 1))

theorem front_eq {r : List UInt8} {i : Nat} (h : i < r.length) : front r i = r[i] :: (r.take i ++ r.drop (i + 1)) := by
  unfold front
  have e : (r.drop i).take 1 = [r[i]] := by rw [List.drop_eq_getElem_cons h]; rfl
  rw [e]
  rfl

theorem front_perm {r : List UInt8} {i : Nat} (h : i < r.length) : (front r i).Perm r := by
  rw [front_eq h]
  refine (List.perm_middle (a := r[i]) (l₁ := r.take i) (l₂ := r.drop (i + 1))).symm.trans ?_
  rw [← List.drop_eq_getElem_cons h, List.take_append_drop]

theorem front_full {r : List UInt8} (h : full r) {i : Nat} (hi : i < 256) : full (front r i) := by
  have hp := front_perm (r := r) (i := i) (by rw [h.1]; exact hi)
  exact ⟨by rw [hp.length_eq]; exact h.1, fun c => hp.mem_iff.2 (h.2 c)⟩

/-- how far each byte is, and the row behind -/
def mvStep (st : List UInt8 × List UInt8) (c : UInt8) : List UInt8 × List UInt8 :=
  (st.1 ++ [UInt8.ofNat (idx st.2 c)], front st.2 (idx st.2 c))
def mv (r s : List UInt8) : List UInt8 × List UInt8 := s.foldl mvStep ([], r)

def bkStep (st : List UInt8 × List UInt8) (d : UInt8) : List UInt8 × List UInt8 :=
  (st.1 ++ [st.2.getD d.toNat 0], front st.2 d.toNat)
def bk (r s : List UInt8) : List UInt8 × List UInt8 := s.foldl bkStep ([], r)

theorem mv_nil (r : List UInt8) : mv r [] = ([], r) := rfl
theorem bk_nil (r : List UInt8) : bk r [] = ([], r) := rfl
theorem mv_snoc (r s : List UInt8) (c : UInt8) : mv r (s ++ [c]) = mvStep (mv r s) c := by simp [mv]
theorem bk_snoc (r s : List UInt8) (c : UInt8) : bk r (s ++ [c]) = bkStep (bk r s) c := by simp [bk]

theorem snoc_ind {α : Type} {P : List α → Prop} (h0 : P []) (h1 : ∀ l a, P l → P (l ++ [a])) (l : List α) : P l := by
  have : P l.reverse.reverse := by
    induction l.reverse with
    | nil => exact h0
    | cons a l ih => rw [List.reverse_cons]; exact h1 _ _ ih
  rwa [List.reverse_reverse] at this

theorem mv_full {r : List UInt8} (h : full r) (s : List UInt8) : full (mv r s).2 := by
  induction s using snoc_ind with
  | h0 => exact h
  | h1 l a ih => rw [mv_snoc]; exact front_full ih (idx_full ih a).2.1
theorem bk_full {r : List UInt8} (h : full r) (s : List UInt8) : full (bk r s).2 := by
  induction s using snoc_ind with
  | h0 => exact h
  | h1 l a ih => rw [bk_snoc]; exact front_full ih a.toNat_lt
theorem mv_length (r s : List UInt8) : (mv r s).1.length = s.length := by
  induction s using snoc_ind with
  | h0 => rfl
  | h1 l a ih => rw [mv_snoc]; simp [mvStep, ih]
theorem bk_length (r s : List UInt8) : (bk r s).1.length = s.length := by
  induction s using snoc_ind with
  | h0 => rfl
  | h1 l a ih => rw [bk_snoc]; simp [bkStep, ih]

theorem toNat_ofNat_lt {i : Nat} (h : i < 256) : (UInt8.ofNat i).toNat = i := by
  simp [UInt8.toNat_ofNat']; omega

theorem bk_mv {r : List UInt8} (h : full r) (s : List UInt8) : bk r (mv r s).1 = (s, (mv r s).2) := by
  induction s using snoc_ind with
  | h0 => rfl
  | h1 l a ih =>
    have hf := mv_full h l
    obtain ⟨_, h2, h3⟩ := idx_full hf a
    rw [mv_snoc]
    show bk r ((mv r l).1 ++ [_]) = _
    rw [bk_snoc, ih]
    unfold bkStep mvStep
    simp only [toNat_ofNat_lt h2]
    rw [List.getD_eq_getElem?_getD, h3]
    rfl

theorem mv_bk {r : List UInt8} (h : full r) (s : List UInt8) : mv r (bk r s).1 = (s, (bk r s).2) := by
  induction s using snoc_ind with
  | h0 => rfl
  | h1 l a ih =>
    have hf := bk_full h l
    have hlt : a.toNat < (bk r l).2.length := by rw [hf.1]; exact a.toNat_lt
    have hi : (bk r l).2[a.toNat]? = some ((bk r l).2.getD a.toNat 0) := by
      rw [List.getD_eq_getElem?_getD, List.getElem?_eq_getElem hlt]; rfl
    have hu := idx_unique hf hi
    rw [bk_snoc]
    show mv r ((bk r l).1 ++ [_]) = _
    rw [mv_snoc, ih]
    unfold mvStep bkStep
    simp only [hu]
    simp

theorem mvStep_fst (o : List UInt8) (st : List UInt8 × List UInt8) (s : List UInt8) :
    s.foldl mvStep (o ++ st.1, st.2) = (o ++ (s.foldl mvStep st).1, (s.foldl mvStep st).2) := by
  induction s generalizing st with
  | nil => rfl
  | cons c l ih =>
    simp only [List.foldl_cons]
    have : mvStep (o ++ st.1, st.2) c = (o ++ (mvStep st c).1, (mvStep st c).2) := by simp [mvStep]
    rw [this, ih]

theorem mv_append (r s t : List UInt8) : mv r (s ++ t) = ((mv r s).1 ++ (mv (mv r s).2 t).1, (mv (mv r s).2 t).2) := by
  have := mvStep_fst (mv r s).1 ([], (mv r s).2) t
  simp only [List.append_nil] at this
  unfold mv at *
  rw [List.foldl_append]
  exact this

theorem idx_zero_iff {r : List UInt8} (h : full r) {c d : UInt8} (h0 : r[0]? = some d) : idx r c = 0 ↔ c = d := by
  constructor
  · intro hi
    have := (idx_full h c).2.2
    rw [hi, h0] at this
    exact (Option.some.inj this).symm
  · rintro rfl
    exact idx_unique h h0

theorem mv_head {r : List UInt8} (h : full r) (s : List UInt8) (c : UInt8) : (mv r (s ++ [c])).2[0]? = some c := by
  rw [mv_snoc]
  have hf := mv_full h s
  obtain ⟨_, h2, h3⟩ := idx_full hf c
  have hlt : idx (mv r s).2 c < (mv r s).2.length := by rw [hf.1]; exact h2
  unfold mvStep
  simp only
  rw [front_eq hlt]
  rw [List.getElem?_eq_getElem hlt] at h3
  simpa using h3

/-- a byte's place is 0 just where it is the one ahead of it -/
theorem mv_again {r : List UInt8} (h : full r) (s : List UInt8) (i : Nat) (h1 : 1 ≤ i) (h2 : i < s.length) :
    ((mv r s).1.getD i 0 = 0) ↔ s.getD i 0 = s.getD (i - 1) 0 := by
  have e : s = s.take (i - 1) ++ [s.getD (i - 1) 0] ++ [s.getD i 0] ++ s.drop (i + 1) := by
    have e1 : s.take i = s.take (i - 1) ++ [s.getD (i - 1) 0] := by
      have := List.take_succ_eq_append_getElem (l := s) (i := i - 1) (by omega)
      rw [show i - 1 + 1 = i by omega] at this
      rw [this, List.getD_eq_getElem?_getD, List.getElem?_eq_getElem (by omega)]
      rfl
    have e2 : s.take (i + 1) = s.take i ++ [s.getD i 0] := by
      rw [List.take_succ_eq_append_getElem (by omega), List.getD_eq_getElem?_getD, List.getElem?_eq_getElem (by omega)]
      rfl
    rw [← e1, ← e2, List.take_append_drop]
  have hlen : ((mv r (s.take (i - 1) ++ [s.getD (i - 1) 0])).1).length = i := by
    rw [mv_length]; simp; omega
  generalize s.getD (i - 1) 0 = p at *
  generalize s.getD i 0 = c at *
  have hf := mv_full h (s.take (i - 1) ++ [p])
  have hh := mv_head h (s.take (i - 1)) p
  rw [e, mv_append, mv_snoc]
  generalize hm : mv r (s.take (i - 1) ++ [p]) = m at *
  have e3 : ((mvStep m c).1 ++ (mv (mvStep m c).2 (s.drop (i + 1))).1).getD i 0 = UInt8.ofNat (idx m.2 c) := by
    unfold mvStep
    simp only [List.append_assoc]
    rw [List.getD_eq_getElem?_getD, List.getElem?_append_right (by omega), hlen]
    simp
  rw [e3]
  rw [← idx_zero_iff hf hh]
  have hlt := (idx_full hf c).2.1
  constructor
  · intro hz
    have := congrArg UInt8.toNat hz
    rw [toNat_ofNat_lt hlt] at this
    simpa using this
  · intro hz; rw [hz]; rfl

end Go.Proofs.Yteopmojpnebjfaa.MtfPlain
