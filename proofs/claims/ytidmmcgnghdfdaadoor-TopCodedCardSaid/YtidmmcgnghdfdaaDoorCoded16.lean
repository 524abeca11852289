/- The lengths that come of an order are right; the sums of the law. -/
import Derived.Test.YtidmmcgnghdfdaaDoorCoded2
namespace Go.Proofs.YtidmmcgnghdfdaaDoor
open Go.RowKit SortPlain PackPlain CanonPlain
set_option linter.unusedVariables false

theorem nzTo_sum (X : List Nat) : ∀ k, nzTo X k = ksum (fun s => if 0 < wt X s then 1 else 0) k
  | 0 => rfl
  | k + 1 => by rw [nzTo, nzTo_sum X k]; rfl
theorem codeOk_lens {W order : List Nat} (h : OrderOf W order) (h1 : 0 < order.length) (hl : W.length ≤ 512) (hol : order.length ≤ 512) : CodeOk (lens W order 15) := by
  have h0 : order.length ≤ 2 ^ 15 := by
    have e : (2 : Nat) ^ 15 = 32768 := by decide
    omega
  have hpos : 0 < W.length := by
    have := h.lt order[0] (List.getElem_mem h1)
    omega
  refine ⟨by rw [lens_length]; exact hpos, by rw [lens_length]; exact hl, fun s => ?_, ?_⟩
  · rcases Nat.lt_or_ge s W.length with hs | hs
    · exact (lens_ok h 15 (by omega) (by omega) h0 s hs).1
    · unfold wt
      rw [List.getD_eq_getElem?_getD, List.getElem?_eq_none (by rw [lens_length]; exact hs)]
      exact Nat.zero_le _
  · rw [lens_length]
    by_cases h2 : 2 ≤ order.length
    · exact .inl (lens_room h h2 hol)
    · have h3 : order.length = 1 := by omega
      refine .inr ⟨lens_room_one h h3, ?_, ?_⟩
      · rw [nzTo_sum, ksum_congr (g := fun s => (fun x => if 0 < x then 1 else 0) (asg order (cof W order 15) order.length s)) _ (fun s hs => by show _ = (if 0 < _ then 1 else 0); rw [lens_wt W order 15 s hs]), asg_room (fun x => if 0 < x then 1 else 0) rfl h.nodup h.lt _ _ (Nat.le_refl _), h3]
        unfold cof
        rw [if_pos h3]
        rfl
      · have hlt := h.lt order[0] (List.getElem_mem h1)
        unfold lens
        refine List.mem_map.2 ⟨order[0], List.mem_range.2 hlt, ?_⟩
        rw [asg_at order h.nodup _ order.length (Nat.le_refl _) 0 h1 h1]
        unfold cof
        rw [if_pos h3]
theorem csum_add (f1 f2 g : Nat → Nat) : ∀ n, csum (fun s => f1 s + f2 s) g n = csum f1 g n + csum f2 g n
  | 0 => rfl
  | n + 1 => by
    show csum _ g n + (f1 n + f2 n) * g n = csum f1 g n + f1 n * g n + (csum f2 g n + f2 n * g n)
    rw [csum_add f1 f2 g n, Nat.add_mul]; omega
theorem csum_one (x : Nat) (g : Nat → Nat) : ∀ n, csum (fun s => if s = x then 1 else 0) g n = if x < n then g x else 0
  | 0 => rfl
  | n + 1 => by
    show csum _ g n + (if n = x then 1 else 0) * g n = _
    rw [csum_one x g n]
    by_cases h1 : n = x
    · subst h1
      rw [if_neg (by omega), if_pos rfl, if_pos (by omega)]; omega
    · rw [if_neg h1]
      by_cases h2 : x < n
      · rw [if_pos h2, if_pos (by omega)]; omega
      · rw [if_neg h2, if_neg (by omega)]; omega
/-- what the symbols cost, by how often each is there -/
theorem csum_list (g : Nat → Nat) (n : Nat) : ∀ L : List Nat, (∀ x ∈ L, x < n) → csum (fun s => L.count s) g n = (L.map g).sum
  | [], _ => by
    have : ∀ n, csum (fun s => ([] : List Nat).count s) g n = 0 := fun n => by
      induction n with
      | zero => rfl
      | succ n ih => show csum _ _ n + _ = 0; rw [ih]; simp
    exact this n
  | x :: L, h => by
    have e : (fun s => (x :: L).count s) = fun s => L.count s + (fun s => if s = x then 1 else 0) s := by
      funext s
      rw [List.count_cons]
      by_cases h1 : x = s
      · subst h1; simp
      · rw [if_neg (by simpa using h1)]
        show _ = _ + if s = x then 1 else 0
        rw [if_neg (fun e => h1 e.symm)]
    rw [e, csum_add, csum_one, csum_list g n L (fun y hy => h y (by simp [hy])), if_pos (h x (by simp)), List.map_cons, List.sum_cons]
    omega
end Go.Proofs.YtidmmcgnghdfdaaDoor
