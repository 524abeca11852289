/- The plain law of merging in place: what is sorted, and where; no program. -/
namespace Go.Proofs.YtidmmcgnghdfdaaDoor.SortPlain

/-- sorted by a key -/
def Srt (key : Nat → Nat) (l : List Nat) : Prop := l.Pairwise (fun x y => key x ≤ key y)
theorem Srt.nil (key : Nat → Nat) : Srt key [] := List.Pairwise.nil
theorem Srt.one (key : Nat → Nat) (x : Nat) : Srt key [x] := List.pairwise_singleton _ _
theorem srt_append {key : Nat → Nat} {a b : List Nat} : Srt key (a ++ b) ↔ Srt key a ∧ Srt key b ∧ ∀ x ∈ a, ∀ y ∈ b, key x ≤ key y := List.pairwise_append
theorem srt_cons {key : Nat → Nat} {x : Nat} {b : List Nat} : Srt key (x :: b) ↔ (∀ y ∈ b, key x ≤ key y) ∧ Srt key b := List.pairwise_cons
theorem srt_get {key : Nat → Nat} {l : List Nat} (h : Srt key l) {i j : Nat} (hij : i ≤ j) (hj : j < l.length) : key (l[i]'(by omega)) ≤ key l[j] := by
  rcases Nat.lt_or_eq_of_le hij with h1 | rfl
  · exact List.pairwise_iff_getElem.1 h i j (by omega) hj h1
  · exact Nat.le_refl _

/-- two cells change places -/
theorem swap_mid (P M Q : List Nat) (x y : Nat) : ((P ++ x :: (M ++ y :: Q)).set P.length y).set (P.length + 1 + M.length) x = P ++ y :: (M ++ x :: Q) := by
  rw [List.set_append_right _ _ (Nat.le_refl _), Nat.sub_self, List.set_cons_zero, List.set_append_right _ _ (by omega), show P.length + 1 + M.length - P.length = M.length + 1 by omega, List.set_cons_succ, List.set_append_right _ _ (Nat.le_refl _), Nat.sub_self, List.set_cons_zero]
theorem swap_mid' (P M Q : List Nat) (x y : Nat) : ((P ++ x :: (M ++ y :: Q)).set (P.length + 1 + M.length) x).set P.length y = P ++ y :: (M ++ x :: Q) := by
  rw [List.set_comm _ _ (by omega), swap_mid]
theorem mid_at (P Q : List Nat) (x : Nat) : (P ++ x :: Q)[P.length]? = some x := by simp
theorem mid_at2 (P M Q : List Nat) (x y : Nat) : (P ++ x :: (M ++ y :: Q))[P.length + 1 + M.length]? = some y := by
  rw [List.getElem?_append_right (by omega), show P.length + 1 + M.length - P.length = M.length + 1 by omega, List.getElem?_cons_succ]
  simp

/-- an element put into a sorted row -/
theorem srt_insert {key : Nat → Nat} {S1 S2 : List Nat} {x : Nat} (h : Srt key (S1 ++ S2)) (h1 : S1 = [] ∨ ∃ i, ∃ h : i < S1.length, i + 1 = S1.length ∧ key S1[i] ≤ key x) (h2 : ∀ y ∈ S2, key x ≤ key y) : Srt key (S1 ++ x :: S2) := by
  obtain ⟨a, b, c⟩ := srt_append.1 h
  refine srt_append.2 ⟨a, srt_cons.2 ⟨h2, b⟩, fun u hu y hy => ?_⟩
  rcases List.mem_cons.1 hy with rfl | hy
  · rcases h1 with rfl | ⟨i, hi, he, hk⟩
    · cases hu
    · obtain ⟨k, hk2, rfl⟩ := List.getElem_of_mem hu
      exact Nat.le_trans (srt_get a (show k ≤ i by omega) hi) hk
  · exact c u hu y hy

/-- both halves of a merge in place: the first one's are at most the second one's -/
theorem sym_join {key : Nat → Nat} {A B : List Nat} (hA : Srt key A) (hB : Srt key B) (s t : Nat) (hs : s ≤ A.length) (ht : t ≤ B.length)
    (h1 : s = 0 ∨ t = B.length ∨ ∃ (ha : s - 1 < A.length) (hb : t < B.length), key A[s - 1] ≤ key B[t])
    (h2 : t = 0 ∨ s = A.length ∨ ∃ (hb : t - 1 < B.length) (ha : s < A.length), key B[t - 1] ≤ key A[s]) :
    ∀ x ∈ A.take s ++ B.take t, ∀ y ∈ A.drop s ++ B.drop t, key x ≤ key y := by
  intro x hx y hy
  have gt : ∀ (l : List Nat) (n : Nat) (z : Nat), z ∈ l.take n → ∃ i, ∃ h : i < l.length, i < n ∧ l[i] = z := by
    intro l n z hz
    obtain ⟨i, hi, rfl⟩ := List.getElem_of_mem hz
    simp at hi
    exact ⟨i, by omega, by omega, by simp⟩
  have gd : ∀ (l : List Nat) (n : Nat) (z : Nat), z ∈ l.drop n → ∃ i, ∃ h : i < l.length, n ≤ i ∧ l[i] = z := by
    intro l n z hz
    obtain ⟨i, hi, rfl⟩ := List.getElem_of_mem hz
    simp at hi
    exact ⟨n + i, by omega, by omega, by simp⟩
  rcases List.mem_append.1 hx with hx | hx <;> rcases List.mem_append.1 hy with hy | hy
  · obtain ⟨i, hi, hin, rfl⟩ := gt _ _ _ hx
    obtain ⟨j, hj, hjn, rfl⟩ := gd _ _ _ hy
    exact srt_get hA (by omega) hj
  · obtain ⟨i, hi, hin, rfl⟩ := gt _ _ _ hx
    obtain ⟨j, hj, hjn, rfl⟩ := gd _ _ _ hy
    rcases h1 with h1 | h1 | ⟨ha, hb, h1⟩
    · omega
    · omega
    · exact Nat.le_trans (srt_get hA (show i ≤ s - 1 by omega) ha) (Nat.le_trans h1 (srt_get hB hjn hj))
  · obtain ⟨i, hi, hin, rfl⟩ := gt _ _ _ hx
    obtain ⟨j, hj, hjn, rfl⟩ := gd _ _ _ hy
    rcases h2 with h2 | h2 | ⟨hb, ha, h2⟩
    · omega
    · omega
    · exact Nat.le_trans (srt_get hB (show i ≤ t - 1 by omega) hb) (Nat.le_trans h2 (srt_get hA hjn hj))
  · obtain ⟨i, hi, hin, rfl⟩ := gt _ _ _ hx
    obtain ⟨j, hj, hjn, rfl⟩ := gd _ _ _ hy
    exact srt_get hB (by omega) hj
theorem srt_halves {key : Nat → Nat} {C1 C2 X Y : List Nat} (h1 : Srt key C1) (h2 : Srt key C2) (p1 : C1.Perm X) (p2 : C2.Perm Y) (h : ∀ x ∈ X, ∀ y ∈ Y, key x ≤ key y) : Srt key (C1 ++ C2) :=
  srt_append.2 ⟨h1, h2, fun x hx y hy => h x (p1.mem_iff.1 hx) y (p2.mem_iff.1 hy)⟩
/-- two sorted rows of the same elements have the same keys -/
theorem keys_eq {key : Nat → Nat} : ∀ {l m : List Nat}, l.Perm m → Srt key l → Srt key m → l.map key = m.map key
  | [], m, hp, _, _ => by rw [List.nil_perm.1 hp]
  | x :: l, [], hp, _, _ => by simp at hp
  | x :: l, y :: m, hp, hl, hm => by
    have h1 : key x ≤ key y := by
      have : y ∈ x :: l := hp.mem_iff.2 (by simp)
      rcases List.mem_cons.1 this with rfl | h
      · exact Nat.le_refl _
      · exact (srt_cons.1 hl).1 y h
    have h2 : key y ≤ key x := by
      have : x ∈ y :: m := hp.mem_iff.1 (by simp)
      rcases List.mem_cons.1 this with rfl | h
      · exact Nat.le_refl _
      · exact (srt_cons.1 hm).1 x h
    have hk : key x = key y := Nat.le_antisymm h1 h2
    -- the keys' rows are the same sorted rows
    have hpk : ((x :: l).map key).Perm ((y :: m).map key) := hp.map key
    simp only [List.map_cons] at hpk ⊢
    rw [hk] at hpk ⊢
    have hpk2 := (List.perm_cons _).1 hpk
    congr 1
    have e1 : (l.map key).Pairwise (· ≤ ·) := by
      rw [List.pairwise_map]; exact (srt_cons.1 hl).2
    have e2 : (m.map key).Pairwise (· ≤ ·) := by
      rw [List.pairwise_map]; exact (srt_cons.1 hm).2
    exact List.Perm.eq_of_pairwise (fun a b _ _ h1 h2 => Nat.le_antisymm h1 h2) e1 e2 hpk2
end Go.Proofs.YtidmmcgnghdfdaaDoor.SortPlain
