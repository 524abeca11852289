/- Slices of the call's own: where a grown one lies; the steps of a region that draws its order. -/
import Derived.Test.YtihohljhjdmamaaGreatKit2
import Derived.Maps.AppendAt
import Derived.Deep.RegionLaw
namespace Go.Proofs.YtihohljhjdmamaaGreat
open Go.RowKit

/-- w' is w but for v's own block, and v' lies there or in a new one -/
structure Grew (w : World) (v : Value) (w' : World) (v' : Value) : Prop where
  grown : w.grownBy w' v.ownBlock
  lies : v'.ownBlock = v.ownBlock ∨ ∃ g, v'.ownBlock = some g ∧ w.heap.size ≤ g
theorem Grew.refl (w : World) (v : Value) : Grew w v w v := ⟨grown_self _ _, .inl rfl⟩
theorem Grew.trans {w w1 w2 : World} {v v1 v2 : Value} (h1 : Grew w v w1 v1) (h2 : Grew w1 v1 w2 v2) : Grew w v w2 v2 := by
  refine ⟨⟨h2.grown.os.trans h1.grown.os, h2.grown.tape.trans h1.grown.tape, h2.grown.output.trans h1.grown.output, Nat.le_trans h1.grown.size h2.grown.size, fun k hk hr => ?_⟩, ?_⟩
  · refine (h2.grown.block k (Nat.lt_of_lt_of_le hk h1.grown.size) ?_).trans (h1.grown.block k hk hr)
    rcases h1.lies with h | ⟨g, h, hg⟩
    · rw [h]; exact hr
    · rw [h]; intro e; injection e with e; omega
  · rcases h2.lies with h | ⟨g, h, hg⟩
    · rw [h]; exact h1.lies
    · exact .inr ⟨g, h, Nat.le_trans h1.grown.size hg⟩
theorem Grew.of_none {w w1 : World} (v : Value) (h : w.grownBy w1 none) : Grew w v w1 v :=
  ⟨⟨h.os, h.tape, h.output, h.size, fun k hk _ => h.block k hk (by simp)⟩, .inl rfl⟩
theorem Grew.below {w w1 : World} {v v1 : Value} {B : Nat} {e : TypeId} {xs : List Value} (h : Grew w v w1 v1) (ho : Owns w B e v xs) (hB : B ≤ w.heap.size) : Below B w w1 :=
  (Below.refl B w).grown h.grown hB (fun k hk => (World.ownsRow.lt ho k hk).1)
/-- what another block held, it holds -/
theorem Grew.row {w w1 : World} {v v1 : Value} {b : Nat} {o : Obj} (h : Grew w v w1 v1) (hb : w.heap[b]? = some o) (hne : v.ownBlock ≠ some b) : w1.heap[b]? = some o := row_kept hb h.grown hne
theorem Owns.block_lt {w : World} {B : Nat} {e : TypeId} {v : Value} {xs : List Value} (h : Owns w B e v xs) (k : Nat) (hk : v.ownBlock = some k) : B ≤ k ∧ k < w.heap.size := World.ownsRow.lt h k hk
/-- a slice of the call's own lies in no block of another type -/
theorem Owns.ne_row {w : World} {B : Nat} {e : TypeId} {v : Value} {xs : List Value} (h : Owns w B e v xs) {b : Nat} {cs : Array Value} {t : TypeId} {fz : Nat × Nat} (hb : w.heap[b]? = some (.cells cs t fz)) (ht : t ≠ e) : v.ownBlock ≠ some b := by
  intro e1
  rcases h.2 with ⟨h1, _⟩ | ⟨g, cap, cur, h1, _, h3, _⟩
  · rw [h1] at e1; cases e1
  · rw [h1] at e1
    injection e1 with e1
    simp only at e1
    subst e1
    rw [hb] at h3
    injection h3 with h3
    injection h3 with _ h4
    exact ht h4

theorem run_pushes {P : Program} {w : World} (t ty : TypeId) (B : Nat) (e : TypeId) (z : Value) (bytes : Nat) (E : ElemOf P t e z bytes) (v : Value) (xs : List Value) (hown : Owns w B e v xs)
    (u : Value) (ys : List Value) (hu : u = .slice none 0 0 ∧ ys = [] ∨ ∃ ad c, u = .slice (some ad) ys.length c ∧ ∀ j y, ys[j]? = some y → w.cell? (ad.add j) = some y) (h1 : ∀ y ∈ ys, y.oneCell' = true) (hbytes : (xs.length + ys.length) * bytes ≤ 140737488355328) (h63 : xs.length + ys.length ≤ maxLen) (hB : B ≤ w.heap.size) :
    ∃ v' w1, (Builtin.append_ #[t, t] ty #[v, u]).run P w = .ok v' w1 ∧ Owns w1 B e v' (xs ++ ys) ∧ Grew w v w1 v' := by
  obtain ⟨i, hi, hz0, hz1, hz2⟩ := info_parts E.info
  rcases hu with ⟨rfl, rfl⟩ | ⟨ad, c, rfl, hc⟩
  · have hrun := run_append_owned_none (P := P) (w := w) B t ty e i 1 E.ht hi v xs.length xs hown
    exact ⟨v, w, hrun, by rw [List.append_nil]; exact hown, Grew.refl _ _⟩
  · obtain ⟨v', w1, hr, h2, h3, _, h5⟩ := run_append_own_at (P := P) w B t ty e i z 1 bytes E.ht hi hz0 hz1 hz2 E.one (by decide) v xs.length xs hown ad ys.length c ys (by simp) hc h1 h63 hbytes hB
    refine ⟨v', w1, hr, by unfold Owns; rw [List.length_append]; exact h2, h3, ?_⟩
    rcases h5 with h5 | h5
    · exact .inl h5
    · exact .inr ⟨_, h5, Nat.le_refl _⟩

/-- what is appended: nothing, or cells that lie there -/
def Src (w : World) (u : Value) (ys : List Value) : Prop := u = .slice none 0 0 ∧ ys = [] ∨ ∃ ad c, u = .slice (some ad) ys.length c ∧ ∀ j y, ys[j]? = some y → w.cell? (ad.add j) = some y
theorem Owns.src {w : World} {B : Nat} {e : TypeId} {u : Value} {ys : List Value} (h : Owns w B e u ys) : Src w u ys := by
  rcases h.shape with ⟨rfl, h2⟩ | ⟨g, cap, rfl, _⟩
  · exact .inl ⟨rfl, h2⟩
  · exact .inr ⟨_, cap, rfl, h.news⟩
theorem Src.one {w : World} {H c : Nat} {y : Value} {e : TypeId} {fz : Nat × Nat} (h : w.heap[H]? = some (.cells #[y] e fz)) : Src w (.slice (some ⟨H, 0, none⟩) 1 c) [y] := by
  refine .inr ⟨_, c, rfl, fun j x hj => ?_⟩
  match j, hj with
  | 0, hj => simp at hj; subst hj; rw [add_plain, cell_of_row _ _ _ _ _ _ h]; rfl

theorem wpList_add {P : Program} {ops : Array Oper} {rest : List Oper} {o : Oper} {a : Act} {w : World} {Q : Exit → Act → World → Prop} (hgd : o.guard = none) (s x : Operand) (t : TypeId)
    (ho : o.op = .call { callee := .builtin .append, args := #[s, x], argTypes := #[t, t] })
    (B : Nat) (e : TypeId) (z : Value) (bytes : Nat) (E : ElemOf P t e z bytes) (v : Value) (xs : List Value) (hs : a.eval s = v) (hown : Owns w B e v xs)
    (u : Value) (ys : List Value) (hx : a.eval x = u) (hu : Src w u ys) (h1 : ∀ y ∈ ys, y.oneCell' = true) (hbytes : (xs.length + ys.length) * bytes ≤ 140737488355328) (h63 : xs.length + ys.length ≤ maxLen) (hB : B ≤ w.heap.size)
    (h : ∀ v' w1, Owns w1 B e v' (xs ++ ys) → Grew w v w1 v' → wpList P ops Q rest (a.put o.dst v') w1) :
    wpList P ops Q (o :: rest) a w := by
  refine wpList_plain hgd fun K hK => ?_
  obtain ⟨v', w1, hr, h2, h3⟩ := run_pushes (P := P) t o.type B e z bytes E v xs hown u ys hu h1 hbytes h63 hB
  unfold Oper.wp execOp
  simp only [ho, resolve, invoke, builtin, Sem.run_bind, Sem.run_pure, Result.andThen_ok, List.map_toArray, List.map_cons, List.map_nil, hs, hx, hr]
  exact hK _ _ (h v' w1 h2 h3)
/-- 'out = append(out, y)': y's own block is the last one -/
theorem wpList_add1 {P : Program} {ops : Array Oper} {rest : List Oper} {o : Oper} {a : Act} {w : World} {Q : Exit → Act → World → Prop} (hgd : o.guard = none) (s x : Operand) (t : TypeId)
    (ho : o.op = .call { callee := .builtin .append, args := #[s, x], argTypes := #[t, t] })
    (B : Nat) (e : TypeId) (z : Value) (bytes : Nat) (E : ElemOf P t e z bytes) (v : Value) (xs : List Value) (hs : a.eval s = v) (hown : Owns w B e v xs)
    (y : Value) (hx : a.eval x = .slice (some ⟨w.heap.size, 0, none⟩) 1 1) (h1 : y.oneCell' = true) (hbytes : (xs.length + 1) * bytes ≤ 140737488355328) (h63 : xs.length + 1 ≤ maxLen) (hB : B ≤ w.heap.size)
    (h : ∀ g cap w1, Owns w1 B e (.slice (some ⟨g, 0, none⟩) (xs.length + 1) cap) (xs ++ [y]) → Grew w v w1 (.slice (some ⟨g, 0, none⟩) (xs.length + 1) cap) → wpList P ops Q rest (a.put o.dst (.slice (some ⟨g, 0, none⟩) (xs.length + 1) cap)) w1) :
    wpList P ops Q (o :: rest) a (w.alloc (.cells #[y] e)) := by
  refine wpList_add hgd s x t ho B e z bytes E v xs hs (World.ownsRow.alloc hown _) _ [y] hx (Src.one (heap_alloc_new w _)) (by simpa using h1) (by simpa using hbytes) (by simpa using h63) (by simp; omega) ?_
  intro v' w1 ho' hg'
  rcases ho'.shape with ⟨_, h2⟩ | ⟨g, cap, rfl, _⟩
  · simp at h2
  · rw [show (xs ++ [y]).length = xs.length + 1 by simp] at ho' hg' ⊢
    exact h g cap w1 ho' ((Grew.of_none v (World.grownBy_alloc w _ none)).trans hg')
theorem step_add {P : Program} {ops : Array Oper} {o : Oper} {a : Act} {w : World} {K : Act → World → Prop} {Q : Exit → Act → World → Prop} {F : Prop} (hgd : o.guard = none) (s x : Operand) (t : TypeId)
    (ho : o.op = .call { callee := .builtin .append, args := #[s, x], argTypes := #[t, t] })
    (B : Nat) (e : TypeId) (z : Value) (bytes : Nat) (E : ElemOf P t e z bytes) (v : Value) (xs : List Value) (hs : a.eval s = v) (hown : Owns w B e v xs)
    (u : Value) (ys : List Value) (hx : a.eval x = u) (hu : Src w u ys) (h1 : ∀ y ∈ ys, y.oneCell' = true) (hbytes : (xs.length + ys.length) * bytes ≤ 140737488355328) (h63 : xs.length + ys.length ≤ maxLen) (hB : B ≤ w.heap.size)
    (h : ∀ v' w1, Owns w1 B e v' (xs ++ ys) → Grew w v w1 v' → K (a.put o.dst v') w1) :
    if Region.wanted o (yielded ops a.tmps) = true then Oper.wp P o a w K Q else F := by
  have hw : Region.wanted o (yielded ops a.tmps) = true := by simp [Region.wanted, hgd]
  rw [if_pos hw]
  obtain ⟨v', w1, hr, h2, h3⟩ := run_pushes (P := P) t o.type B e z bytes E v xs hown u ys hu h1 hbytes h63 hB
  unfold Oper.wp execOp
  simp only [ho, resolve, invoke, builtin, Sem.run_bind, Sem.run_pure, Result.andThen_ok, List.map_toArray, List.map_cons, List.map_nil, hs, hx, hr]
  exact h v' w1 h2 h3
end Go.Proofs.YtihohljhjdmamaaGreat
