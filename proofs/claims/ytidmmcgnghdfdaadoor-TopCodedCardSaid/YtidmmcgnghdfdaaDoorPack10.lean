/- The room that the lengths take: all; plain. -/
import Derived.Test.YtidmmcgnghdfdaaDoorPack8
import Derived.Test.YtidmmcgnghdfdaaDoorPackPlain3
namespace Go.Proofs.YtidmmcgnghdfdaaDoor
open Go.RowKit SortPlain PackPlain ZerosPlain
set_option linter.unusedVariables false

theorem ksum_point (F : Nat → Nat) {g g' : Nat → Nat} (o : Nat) (h0 : F (g o) = 0) (hs : ∀ s, s ≠ o → g' s = g s) : ∀ n, ksum (fun s => F (g' s)) n = ksum (fun s => F (g s)) n + if o < n then F (g' o) else 0
  | 0 => by simp [ksum]
  | n + 1 => by
    rw [ksum, ksum, ksum_point F o h0 hs n]
    by_cases h1 : o = n
    · subst h1
      rw [if_neg (Nat.lt_irrefl o), if_pos (Nat.lt_succ_self o), h0]
    · rw [hs n (fun e => h1 e.symm)]
      by_cases h2 : o < n
      · rw [if_pos h2, if_pos (by omega)]; omega
      · rw [if_neg h2, if_neg (by omega)]; omega
theorem asg_room (F : Nat → Nat) (hF : F 0 = 0) {order : List Nat} {n : Nat} (hnd : order.Nodup) (hlt : ∀ o ∈ order, o < n) (c : Nat → Nat) : ∀ K, K ≤ order.length → ksum (fun s => F (asg order c K s)) n = ksum (fun k => F (c k)) K
  | 0, _ => by
    have : ∀ n, ksum (fun s => F (asg order c 0 s)) n = 0 := fun n => by
      induction n with
      | zero => rfl
      | succ n ih => rw [ksum, ih]; show 0 + F 0 = 0; rw [hF]
    rw [this]; rfl
  | K + 1, hK => by
    have hKl : K < order.length := hK
    have e : order.getD K 0 = order[K] := by simp [List.getD, hKl]
    have hni : order[K] ∉ order.take K := fun hm => by
      obtain ⟨i, hi, he⟩ := List.getElem_of_mem hm
      rw [List.length_take] at hi
      rw [List.getElem_take] at he
      have := (List.getElem_inj hnd).1 he
      omega
    have h1 := ksum_point F (g := asg order c K) (g' := asg order c (K + 1)) order[K] (by rw [asg_not order c K (by omega) _ hni]; exact hF) (fun s hs => by
      show (if s = order.getD K 0 then c K else _) = _
      rw [e, if_neg hs]) n
    rw [h1, if_pos (hlt _ (List.getElem_mem hKl)), asg_room F hF hnd hlt c K (by omega), ksum, asg_at order hnd c (K + 1) hK K hKl (by omega)]
/-- the room that a length takes -/
def rm (l : Nat) : Nat := if 0 < l then 2 ^ (15 - l) else 0
theorem lens_room {W order : List Nat} (h : OrderOf W order) (h2 : 2 ≤ order.length) (hn : order.length ≤ 512) : ksum (fun s => rm (wt (lens W order 15) s)) W.length = 32768 := by
  rw [ksum_congr (g := fun s => rm (asg order (cof W order 15) order.length s)) _ (fun s hs => by show rm _ = rm _; rw [lens_wt W order 15 s hs]), asg_room rm rfl h.nodup h.lt _ _ (Nat.le_refl _)]
  have hl : (order.map (wt W)).length = order.length := by simp
  have h3 := lev_ge (order.map (wt W)) 14 (by rw [hl]; omega)
  have h4 := kraft_full h.srtN (by rw [hl]; exact h2) 14 h3
  rw [hl] at h4
  rw [← show (2 : Nat) ^ (14 + 1) = 32768 from rfl, ← h4]
  refine ksum_congr _ (fun k hk => ?_)
  have h5 := (cof_ok h 15 (by omega) (by omega) k hk).1
  show rm (cof W order 15 k) = _
  unfold rm
  rw [if_pos (by omega)]
  unfold cof
  rw [if_neg (by omega)]
theorem lens_room_one {W order : List Nat} (h : OrderOf W order) (h2 : order.length = 1) : ksum (fun s => rm (wt (lens W order 15) s)) W.length = 16384 := by
  rw [ksum_congr (g := fun s => rm (asg order (cof W order 15) order.length s)) _ (fun s hs => by show rm _ = rm _; rw [lens_wt W order 15 s hs]), asg_room rm rfl h.nodup h.lt _ _ (Nat.le_refl _), h2]
  unfold cof
  rw [if_pos h2]
  rfl
end Go.Proofs.YtidmmcgnghdfdaaDoor
