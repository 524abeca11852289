/- The sums behind TopPacked: plain. -/
import Derived.Test.YtidmmcgnghdfdaaDoorPack7
import Derived.Test.YtidmmcgnghdfdaaDoorZerosPlain2
namespace Go.Proofs.YtidmmcgnghdfdaaDoor
open Go.RowKit SortPlain PackPlain ZerosPlain
set_option linter.unusedVariables false

theorem csum_congr {f f' g g' : Nat → Nat} : ∀ n, (∀ s, s < n → f s = f' s ∧ g s = g' s) → csum f g n = csum f' g' n
  | 0, _ => rfl
  | n + 1, h => by
    show csum f g n + f n * g n = csum f' g' n + f' n * g' n
    rw [csum_congr n (fun s hs => h s (by omega)), (h n (by omega)).1, (h n (by omega)).2]
theorem csum_mono {f g g' : Nat → Nat} : ∀ n, (∀ s, s < n → g s ≤ g' s) → csum f g n ≤ csum f g' n
  | 0, _ => Nat.le_refl _
  | n + 1, h => by
    show csum f g n + f n * g n ≤ csum f g' n + f n * g' n
    have h1 := csum_mono (f := f) n (fun s hs => h s (by omega))
    have h2 := Nat.mul_le_mul_left (f n) (h n (by omega))
    omega
theorem csum_point {f g g' : Nat → Nat} (o : Nat) (h0 : g o = 0) (hs : ∀ s, s ≠ o → g' s = g s) : ∀ n, csum f g' n = csum f g n + if o < n then f o * g' o else 0
  | 0 => by simp [csum]
  | n + 1 => by
    show csum f g' n + f n * g' n = csum f g n + f n * g n + _
    rw [csum_point o h0 hs n]
    by_cases h1 : o = n
    · subst h1
      rw [if_neg (Nat.lt_irrefl o), if_pos (Nat.lt_succ_self o), h0]; simp
    · rw [hs n (fun e => h1 e.symm)]
      by_cases h2 : o < n
      · rw [if_pos h2, if_pos (by omega)]; omega
      · rw [if_neg h2, if_neg (by omega)]; omega
theorem csum_count (o : Nat) (f : Nat → Nat) : ∀ n, csum (fun s => f s + if s = o then 1 else 0) (fun _ => 1) n = csum f (fun _ => 1) n + if o < n then 1 else 0
  | 0 => by simp [csum]
  | n + 1 => by
    show csum _ _ n + (f n + if n = o then 1 else 0) * 1 = csum f _ n + f n * 1 + _
    rw [csum_count o f n]
    by_cases h1 : o = n
    · subst h1; simp; omega
    · have e : (if n = o then 1 else 0) = 0 := if_neg (fun e => h1 e.symm)
      rw [e]
      by_cases h2 : o < n
      · rw [if_pos h2, if_pos (by omega)]; omega
      · rw [if_neg h2, if_neg (by omega)]; omega
theorem csum_hist (n : Nat) : ∀ L : List Nat, (∀ x ∈ L, x < n) → csum (fun s => L.count s) (fun _ => 1) n = L.length
  | [], _ => by
    have : ∀ n, csum (fun s => ([] : List Nat).count s) (fun _ => 1) n = 0 := fun n => by
      induction n with
      | zero => rfl
      | succ n ih => show csum _ _ n + _ = 0; rw [ih]; simp
    exact this n
  | x :: L, h => by
    have e : (fun s => (x :: L).count s) = fun s => L.count s + if s = x then 1 else 0 := by
      funext s
      rw [List.count_cons]
      by_cases h1 : x = s
      · subst h1; simp
      · rw [if_neg (by simpa using h1), if_neg (fun e => h1 e.symm)]
    rw [e, csum_count, csum_hist n L (fun y hy => h y (by simp [hy])), if_pos (h x (by simp))]
    rfl
theorem dot_snoc (l : List Nat) (x : Nat) (c : Nat → Nat) : dot (l ++ [x]) c = dot l c + x * c l.length := by
  induction l generalizing c with
  | nil => simp [dot]
  | cons y l ih => rw [List.cons_append, dot, dot, ih, List.length_cons]; omega
theorem asg_not (order : List Nat) (c : Nat → Nat) : ∀ K, K ≤ order.length → ∀ s, s ∉ order.take K → asg order c K s = 0
  | 0, _, _, _ => rfl
  | K + 1, hK, s, hs => by
    have hk : K < order.length := hK
    rw [List.take_succ_eq_append_getElem hk] at hs
    simp only [List.mem_append, List.mem_singleton, not_or] at hs
    show (if s = order.getD K 0 then c K else _) = 0
    rw [if_neg (by simpa [List.getD, hk] using hs.2)]
    exact asg_not order c K (by omega) s hs.1
theorem asg_at (order : List Nat) (hnd : order.Nodup) (c : Nat → Nat) : ∀ K, K ≤ order.length → ∀ k (hk : k < order.length), k < K → asg order c K order[k] = c k
  | 0, _, _, _, h => absurd h (Nat.not_lt_zero _)
  | K + 1, hK, k, hk, hkK => by
    have hKl : K < order.length := hK
    have e : order.getD K 0 = order[K] := by simp [List.getD, hKl]
    show (if order[k] = order.getD K 0 then c K else _) = _
    rw [e]
    by_cases h1 : k = K
    · subst h1; rw [if_pos rfl]
    · rw [if_neg (fun h => h1 ((List.getElem_inj hnd).1 h))]
      exact asg_at order hnd c K (by omega) k hk (by omega)
theorem asg_dot {W order : List Nat} (hnd : order.Nodup) (hlt : ∀ o ∈ order, o < W.length) (c : Nat → Nat) : ∀ K, K ≤ order.length → csum (wt W) (asg order c K) W.length = dot ((order.take K).map (wt W)) c
  | 0, _ => by
    have : ∀ n, csum (wt W) (asg order c 0) n = 0 := fun n => by
      induction n with
      | zero => rfl
      | succ n ih => show csum _ _ n + _ * 0 = 0; rw [ih]; simp
    rw [this]; rfl
  | K + 1, hK => by
    have hKl : K < order.length := hK
    have e : order.getD K 0 = order[K] := by simp [List.getD, hKl]
    have hni : order[K] ∉ order.take K := fun hm => by
      obtain ⟨i, hi, he⟩ := List.getElem_of_mem hm
      rw [List.length_take] at hi
      rw [List.getElem_take] at he
      have := (List.getElem_inj hnd).1 he
      omega
    have h1 := csum_point (f := wt W) (g := asg order c K) (g' := asg order c (K + 1)) order[K] (asg_not order c K (by omega) _ hni) (fun s hs => by
      show (if s = order.getD K 0 then c K else _) = _
      rw [e, if_neg hs]) W.length
    rw [h1, if_pos (hlt _ (List.getElem_mem hKl)), asg_dot hnd hlt c K (by omega), List.take_succ_eq_append_getElem hKl, List.map_append, List.map_cons, List.map_nil, dot_snoc]
    congr 1
    rw [asg_at order hnd c (K + 1) hK K hKl (by omega)]
    congr 2
    rw [List.length_map, List.length_take]; omega
theorem have_nodup (W : List Nat) (k : Nat) : (have_ W k).Nodup := List.Pairwise.filter _ List.nodup_range
theorem OrderOf.nodup {W order : List Nat} (h : OrderOf W order) : order.Nodup := (h.perm.nodup_iff).2 (have_nodup W _)
theorem OrderOf.has {W order : List Nat} (h : OrderOf W order) (s : Nat) (hs : s < W.length) (hw : 0 < wt W s) : s ∈ order := by
  rw [h.perm.mem_iff]
  unfold have_
  rw [List.mem_filter]
  exact ⟨List.mem_range.2 hs, by simpa using hw⟩
/-- the lengths that come of an order -/
def lens (W order : List Nat) (l : Nat) : List Nat := (List.range W.length).map (asg order (cof W order l) order.length)
theorem lens_length (W order : List Nat) (l : Nat) : (lens W order l).length = W.length := by simp [lens]
theorem lens_wt (W order : List Nat) (l s : Nat) (hs : s < W.length) : wt (lens W order l) s = asg order (cof W order l) order.length s := by
  unfold wt lens; simp [List.getD, hs]
theorem cof_ok {W order : List Nat} (h : OrderOf W order) (l : Nat) (h1 : 1 ≤ l) (hn : order.length ≤ 2 ^ l) (k : Nat) (hk : k < order.length) : 1 ≤ cof W order l k ∧ cof W order l k ≤ l := by
  unfold cof
  by_cases ho : order.length = 1
  · rw [if_pos ho]; exact ⟨Nat.le_refl _, h1⟩
  · rw [if_neg ho]
    have hl : (order.map (wt W)).length = order.length := by simp
    have h2 := lev_ge (order.map (wt W)) (l - 1) (by rw [hl, show l - 1 + 1 = l by omega]; exact hn)
    rw [hl] at h2
    have h3 := cnt_ge h.srtN (by rw [hl]; omega) (l - 1) (by rw [hl]; exact h2) k (by rw [hl]; exact hk)
    rw [hl] at h3
    have h4 := cnt_le h.srtN (l - 1) (2 * order.length - 2) k h2
    omega
theorem lens_ok {W order : List Nat} (h : OrderOf W order) (l : Nat) (h1 : 1 ≤ l) (h2 : l ≤ 15) (hn : order.length ≤ 2 ^ l) : ∀ s, s < W.length → wt (lens W order l) s ≤ 15 ∧ (0 < wt W s → 1 ≤ wt (lens W order l) s) := fun s hs => by
  rw [lens_wt W order l s hs]
  by_cases hm : s ∈ order
  · obtain ⟨k, hk, rfl⟩ := List.getElem_of_mem hm
    rw [asg_at order h.nodup _ _ (Nat.le_refl _) k hk hk]
    have := cof_ok h l h1 hn k hk
    exact ⟨by omega, fun _ => this.1⟩
  · rw [asg_not order _ _ (Nat.le_refl _) s (by rwa [List.take_length])]
    exact ⟨Nat.zero_le _, fun hw => absurd (h.has s hs hw) hm⟩
theorem lens_cost {W order : List Nat} (h : OrderOf W order) (l : Nat) : csum (wt W) (wt (lens W order l)) W.length = dot (order.map (wt W)) (cof W order l) := by
  rw [csum_congr (g' := asg order (cof W order l) order.length) _ (fun s hs => ⟨rfl, lens_wt W order l s hs⟩), asg_dot h.nodup h.lt _ _ (Nat.le_refl _), List.take_length]
theorem dot_one (l : List Nat) : dot l (fun _ => 1) = l.sum := by
  induction l with
  | nil => rfl
  | cons x l ih => rw [dot, ih, List.sum_cons]; omega
theorem order_sum_le {W order : List Nat} (h : OrderOf W order) : (order.map (wt W)).sum ≤ csum (wt W) (fun _ => 1) W.length := by
  rw [← dot_one, ← List.take_length (l := order), ← asg_dot h.nodup h.lt (fun _ => 1) order.length (Nat.le_refl _)]
  refine csum_mono _ (fun s hs => ?_)
  by_cases hm : s ∈ order
  · obtain ⟨k, hk, rfl⟩ := List.getElem_of_mem hm
    rw [asg_at order h.nodup _ _ (Nat.le_refl _) k hk hk]
    exact Nat.le_refl _
  · rw [asg_not order _ _ (Nat.le_refl _) s (by rwa [List.take_length])]; exact Nat.zero_le _
/-- nine bits each are enough -/
theorem cost_le_nine {W order : List Nat} (h : OrderOf W order) (hn : order.length ≤ 512) : csum (wt W) (wt (lens W order 15)) W.length ≤ 9 * csum (wt W) (fun _ => 1) W.length := by
  rw [lens_cost h]
  have h1 := order_sum_le h
  refine Nat.le_trans ?_ (Nat.mul_le_mul_left 9 h1)
  unfold cof
  by_cases ho : order.length = 1
  · rw [if_pos ho, dot_one]; omega
  · rw [if_neg ho]
    have hl : (order.map (wt W)).length = order.length := by simp
    have := cost_nine h.srtN (by rw [hl]; exact hn)
    rw [hl] at this
    exact this
/-- fewer levels cost no less -/
theorem cost_le_less {W order order2 : List Nat} (h : OrderOf W order) (h2 : OrderOf W order2) (l : Nat) (h1 : 1 ≤ l) (hl : l ≤ 15) (hn : order2.length ≤ 2 ^ l) : csum (wt W) (wt (lens W order 15)) W.length ≤ csum (wt W) (wt (lens W order2 l)) W.length := by
  rw [lens_cost h, lens_cost h2]
  have e : order.map (wt W) = order2.map (wt W) := keys_eq (h.perm.trans h2.perm.symm) h.srt h2.srt
  have el : order.length = order2.length := (h.perm.trans h2.perm.symm).length_eq
  rw [e]
  unfold cof
  rw [el]
  by_cases ho : order2.length = 1
  · rw [if_pos ho, if_pos ho]; exact Nat.le_refl _
  · rw [if_neg ho, if_neg ho, e]
    have hl2 : (order2.map (wt W)).length = order2.length := by simp
    have := cost_anti h2.srtN (l - 1) (15 - l) (by rw [hl2, show l - 1 + 1 = l by omega]; exact hn)
    rw [hl2, show l - 1 + (15 - l) = 15 - 1 by omega] at this
    exact this
end Go.Proofs.YtidmmcgnghdfdaaDoor
