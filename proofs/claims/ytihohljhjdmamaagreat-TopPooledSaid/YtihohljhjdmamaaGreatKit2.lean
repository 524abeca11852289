/- More small laws of ours for the walks, of no one function. -/
import Derived.Test.YtihohljhjdmamaaGreatKit
import Derived.Laws.AppendOwnNone
namespace Go.Proofs.YtihohljhjdmamaaGreat
open Go.RowKit

theorem grown_self (w : World) (q : Option Nat) : w.grownBy w q := ⟨rfl, rfl, rfl, Nat.le_refl _, fun _ _ _ => rfl⟩
theorem grown_bel {w w' : World} (h : Below w.heap.size w w') (r : Option Nat) : w.grownBy w' r := ⟨h.os, h.tape, h.output, h.size, fun k hk _ => h.block k hk⟩
theorem bel_grown {w w' : World} {B : Nat} (h : w.grownBy w' none) (hB : B ≤ w.heap.size) : Below B w w' := (Below.refl B w).grown h hB (fun k e => by cases e)
theorem row_cell {w : World} {b : Nat} {cs : Array Value} {t : TypeId} (h : w.heap[b]? = some (.cells cs t (0, 0))) (j : Nat) (v : Value) (hj : cs[j]? = some v) : w.cell? ⟨b, j, none⟩ = some v := by
  rw [cell_of_row _ _ _ _ _ _ h, hj]
theorem row_free {w : World} {b : Nat} {cs : Array Value} {t : TypeId} (h : w.heap[b]? = some (.cells cs t (0, 0))) (j : Nat) : w.frozen? ⟨b, j, none⟩ = false := frozen_of_row _ _ _ _ _ h
theorem row_kept {w w' : World} {b : Nat} {o : Obj} {q : Option Nat} (h : w.heap[b]? = some o) (hg : w.grownBy w' q) (hq : q ≠ some b) : w'.heap[b]? = some o :=
  (hg.block b (Array.getElem?_eq_some_iff.1 h).1 (fun e => hq e.symm)).trans h
theorem row_kept' {w w' : World} {b : Nat} {o : Obj} {q : Option Nat} (hg : w.grownBy w' q) (h : w.heap[b]? = some o) (hq : q ≠ some b) : w'.heap[b]? = some o := row_kept h hg hq
theorem row_below {w w' : World} {b : Nat} {o : Obj} (h : w.heap[b]? = some o) (hb : Below w.heap.size w w') : w'.heap[b]? = some o := row_kept h (grown_bel hb none) (by simp)
theorem row_lt {w : World} {b : Nat} {o : Obj} (h : w.heap[b]? = some o) : b < w.heap.size := (Array.getElem?_eq_some_iff.1 h).1
theorem row2 {w : World} {b : Nat} {x y : Value} {t : TypeId} (h : w.heap[b]? = some (.cells #[x, y] t (0, 0))) :
    w.cell? ⟨b, 0, none⟩ = some x ∧ w.cell? ⟨b, 1, none⟩ = some y ∧ w.frozen? ⟨b, 0, none⟩ = false ∧ w.frozen? ⟨b, 1, none⟩ = false :=
  ⟨row_cell h 0 x rfl, row_cell h 1 y rfl, row_free h 0, row_free h 1⟩
theorem row3 {w : World} {b : Nat} {x y z : Value} {t : TypeId} (h : w.heap[b]? = some (.cells #[x, y, z] t (0, 0))) :
    w.cell? ⟨b, 0, none⟩ = some x ∧ w.cell? ⟨b, 1, none⟩ = some y ∧ w.cell? ⟨b, 2, none⟩ = some z ∧ w.frozen? ⟨b, 0, none⟩ = false ∧ w.frozen? ⟨b, 1, none⟩ = false ∧ w.frozen? ⟨b, 2, none⟩ = false :=
  ⟨row_cell h 0 x rfl, row_cell h 1 y rfl, row_cell h 2 z rfl, row_free h 0, row_free h 1, row_free h 2⟩

theorem Owns.news {w : World} {B : Nat} {e : TypeId} {g n cap : Nat} {ys : List Value} (h : Owns w B e (.slice (some ⟨g, 0, none⟩) n cap) ys) : ∀ j u, ys[j]? = some u → w.cell? ((⟨g, 0, none⟩ : Addr).add j) = some u := by
  intro j u hj
  obtain ⟨hlt, rfl⟩ := List.getElem?_eq_some_iff.1 hj
  rw [add_plain, Nat.zero_add]
  exact h.cell j hlt
/-- 'out = append(out, ys...)', both the call's own (or nil). -/
theorem wpList_pushes {P : Program} {ops : Array Oper} {rest : List Oper} {o : Oper} {a : Act} {w : World} {Q : Exit → Act → World → Prop} (hgd : o.guard = none) (s x : Operand) (t : TypeId)
    (ho : o.op = .call { callee := .builtin .append, args := #[s, x], argTypes := #[t, t] })
    (B : Nat) (e : TypeId) (z : Value) (bytes : Nat) (E : ElemOf P t e z bytes) (v : Value) (xs : List Value) (hs : a.eval s = v) (hown : Owns w B e v xs)
    (B2 : Nat) (u : Value) (ys : List Value) (hx : a.eval x = u) (hu : Owns w B2 e u ys) (h1 : ∀ y ∈ ys, y.oneCell' = true) (hbytes : (xs.length + ys.length) * bytes ≤ 140737488355328) (h63 : xs.length + ys.length ≤ maxLen) (hB : B ≤ w.heap.size)
    (h : ∀ v' w1, Owns w1 B e v' (xs ++ ys) → Below B w w1 → w.grownBy w1 v.ownBlock → wpList P ops Q rest (a.put o.dst v') w1) :
    wpList P ops Q (o :: rest) a w := by
  obtain ⟨i, hi, hz0, hz1, hz2⟩ := info_parts E.info
  rcases hu.shape with ⟨rfl, h2⟩ | ⟨g, cap, rfl, _⟩
  · subst h2
    refine wpList_append_own_none hgd s x t ho B e i 1 E.ht hi v xs.length xs hs hown hx ?_
    refine h v w (by rw [List.append_nil]; exact hown) (Below.refl _ _) (grown_self _ _)
  · refine wpList_append_own w hgd s x t ho B e i z 1 bytes E.ht hi hz0 hz1 hz2 E.one (by decide) v xs.length xs hs hown ⟨g, 0, none⟩ ys.length cap ys hx (by simp) hu.news h1 h63 hbytes hB ?_
    intro v' w1 hown' hgrow _
    refine h v' w1 (by unfold Owns; rw [List.length_append]; exact hown') ?_ hgrow
    exact (Below.refl B w).grown hgrow hB (fun k hk => (World.ownsRow.lt hown k hk).1)
/-- the value of a slice of the call's own, written out -/
theorem Owns.form {w : World} {B : Nat} {e : TypeId} {v : Value} {xs : List Value} (h : Owns w B e v xs) : ∃ ao cap, v = .slice ao xs.length cap ∧ (ao = none → xs = []) := by
  rcases h.shape with ⟨rfl, h2⟩ | ⟨g, cap, rfl, _⟩
  · exact ⟨none, 0, by rw [h2]; rfl, fun _ => h2⟩
  · exact ⟨_, cap, rfl, fun e => by cases e⟩
end Go.Proofs.YtihohljhjdmamaaGreat
