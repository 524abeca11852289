/- A loop over an iterator whose k-th round's values are known: a law of ours for it. -/
import Derived.Test.YtihohljhjdmamaaGreatRows
import Derived.Test.YtihohljhjdmamaaGreatKit4
import Derived.Handy
import Derived.BigRegion
import Derived.Deep.QuietTactic
import Derived.BigQuiet
import Derived.Outline
import Derived.RangeFuncNested
import Derived.RangeFuncBound
import Derived.RangeFuncCalls
import Derived.RangeFuncLeaves
import Derived.Shelf.Abstract
import Derived.Shelf.RegionOpen
import Derived.OwnWalkIn
import Derived.TacticsInMore
import Derived.LoopNIn
import Derived.LoopIn
namespace Go.Proofs.YtihohljhjdmamaaGreat
open Go.RowKit Go.Shelf
set_option linter.unusedVariables false
attribute [local go_sem] Oper.semAt_some

/-- the blocks of S are as they were -/
structure SameOn (S : Nat → Prop) (A B : World) : Prop where
  size : A.heap.size ≤ B.heap.size
  same : ∀ k, S k → k < A.heap.size → B.heap[k]? = A.heap[k]?
theorem SameOn.refl (S : Nat → Prop) (A : World) : SameOn S A A := ⟨Nat.le_refl _, fun _ _ _ => rfl⟩
theorem SameOn.trans {S : Nat → Prop} {A B C : World} (h : SameOn S A B) (k : SameOn S B C) : SameOn S A C :=
  ⟨Nat.le_trans h.size k.size, fun i hi hl => (k.same i hi (Nat.lt_of_lt_of_le hl h.size)).trans (h.same i hi hl)⟩
theorem SameOn.grown {S : Nat → Prop} {A B : World} {r : Option Nat} (h : A.grownBy B r) (hr : ∀ k, S k → r ≠ some k) : SameOn S A B := ⟨h.size, fun k hk hl => h.block k hl (fun e => hr k hk e.symm)⟩
theorem SameOn.cell {S : Nat → Prop} {A B : World} (h : SameOn S A B) {b o : Nat} {v : Value} (hb : S b) (hc : A.cell? ⟨b, o, none⟩ = some v) : B.cell? ⟨b, o, none⟩ = some v := by
  have hl : b < A.heap.size := by
    rcases Nat.lt_or_ge b A.heap.size with h | h
    · exact h
    · simp [World.cell?, Array.getElem?_eq_none h] at hc
  rw [← hc]
  exact World.cell?_of_block (h.same b hb hl)
/-- what a round leaves: it goes on -/
def GoesOn (S : Nat → Prop) (I : Nat → World → Prop) (k : Nat) (W : World) : Exit → Act → World → Prop
  | .normal, _, W' => KeepsOthers W W' ∧ SameOn S W W' ∧ I k W'
  | _, _, _ => False

theorem rangeFunc_nth {F : Fence} {n : Nat} {P : Program} {g : Operand} {ps : Array Tmp} {assign body : Code} {Q : Exit → Act → World → Prop} {a : Act} {w : World}
    (hro : F.round = none) (h1 : 1 ≤ n) {gf : Nat} {lb : Array Value} (hg : a.eval g = .func (.func gf) #[] lb) (hFg : F.fn gf) (eg : ∀ args w, (callFunc gf args).run P w = .ok (.enter gf args) w)
    (enc : Nat → Array Value) (m : Nat) (S : Nat → Prop) (hS : ∀ k, S k → k < w.heap.size) (hps : ∀ k, (enc k).size = ps.size)
    (hseq : ∀ (l : Nat) (J : Nat → World → Prop) (W : World), Below w.heap.size w W → (∀ k W1 q, J k W1 → J k (W1.drewN q)) →
      (∀ k W1, J k W1 → k < m → YieldAt F (n - 1 - 1) P l (enc k) W1 fun e W' => e = .returned (.bool true) ∧ J (k + 1) W' ∧ SameOn S W1 W') → J 0 W →
      CallsIn F (n - 1) P gf (#[.func (.yield l) #[] #[]] ++ lb) W fun e W' => (∃ v, e = .returned v) ∧ J m W')
    (I : Nat → World → Prop) (hI : OwnFrom w.heap.size I) (h0 : I 0 w) (a₁ : Nat → Act)
    (hassign : ∀ (l k : Nat) (W : World) (K : Act → World → Prop), K (a₁ k) W →
      assign.wpIn (F.inRound l) (n - 1 - 1) P (Exit.then K (fun _ _ _ => False)) { tmps := (ps.zip (enc k)).foldl (fun t (p, v) => t.setIfInBounds p v) a.tmps, defers := [] } W)
    (hbody : ∀ (l k : Nat) (W : World), I k W → k < m → body.wpIn (F.inRound l) (n - 1 - 1) P (GoesOn S I (k + 1) W) (a₁ k) W)
    (hdone : ∀ (D : Nat) (W : World), w.heap.size ≤ D → I m W → W.heap[D]? = some (.deferred (some [])) → Q .normal { a with defers := { target := .collected D, args := #[] } :: a.defers } W) :
    (Code.rangeFunc g ps assign body).wpIn F n P Q a w := by
  refine wpIn_rangeFunc ?_
  intro fn hfn
  rw [hro]
  let B := w.heap.size
  let rec_ : LoopState → Loop := fun st => { state := st, pending := none, fn, tmps := a.tmps, params := ps, assign, body, defers := B }
  let W1 := (w.alloc (.deferred (some []))).alloc (.loop (rec_ .ready))
  have lW1 : W1.heap[B + 1]? = some (.loop (rec_ .ready)) := by
    have := World.alloc_heap_new (w.alloc (.deferred (some []))) (.loop (rec_ .ready))
    rwa [World.size_alloc] at this
  have dW1 : W1.heap[B]? = some (.deferred (some [])) := (Below.heap_alloc _ _ _ (by simp [B])).trans (World.alloc_heap_new w _)
  have iW1 : I 0 W1 := hI.alloc _ (hI.alloc _ h0)
  have bW1 : Below B w W1 := ((Below.refl _ w).alloc (Nat.le_refl _) _).alloc (by simp) _
  refine ⟨B + 1, [{ target := .collected B, args := #[] }], W1, { target := .fn (.func gf) lb, args := #[.func (.yield (B + 1)) #[] #[]] }, W1, gf, #[.func (.yield (B + 1)) #[] #[]] ++ lb, W1, run_enterLoop_outer _ _ _ _ _, ?_, ?_, ?_, fun _ => h1, ?_⟩
  · simp only [resolve, hg]
    simp [go_sem]
  · intro f' hf'; simp [Target.leads] at hf'; subst hf'; exact hFg
  · simp [invoke, go_sem, eg]
  refine (hseq (B + 1) (fun k W => I k W ∧ W.heap[B + 1]? = some (.loop (rec_ .ready)) ∧ W.heap[B]? = some (.deferred (some []))) W1 bW1 (fun k W1 q h => ⟨hI _ _ _ none h.1 (grown_drewN W1 q none) (fun r e => by cases e), h.2⟩) ?_ ⟨iW1, lW1, dW1⟩).mono ?_
  · rintro k W ⟨hi, hl, hd⟩ hk
    have hlt : B + 1 < W.heap.size := (Array.getElem?_eq_some_iff.1 hl).1
    have hy := run_yield (P := P) (args := enc k) hl (hps k)
    refine ⟨fn, _, assign, body, hy, roundIn_of_wpIn hfn (hassign _ k W _ ⟨_, run_beginRound hl rfl, ?_⟩)⟩
    have l2 : (W.putObj (B + 1) (.loop (rec_ .busy))).heap[B + 1]? = some (.loop (rec_ .busy)) := World.putObj_heap_same hlt
    have d2 : (W.putObj (B + 1) (.loop (rec_ .busy))).heap[B]? = some (.deferred (some [])) := (World.putObj_heap_other (by omega)).trans hd
    have b2 : SameOn S W (W.putObj (B + 1) (.loop (rec_ .busy))) := SameOn.grown (grownBy_putObj' W (B + 1) _) (fun q hq e => by have := hS q hq; injection e with e; omega)
    refine wpIn_mono (hbody _ k _ (hI.putObj _ hi (by omega) hl rfl) hk) ?_
    intro e a3 W3 hp
    match e, hp with
    | .normal, ⟨k3, b3, i3⟩ =>
      have l3 : W3.heap[B + 1]? = some (.loop (rec_ .busy)) := k3.same _ _ l2 rfl
      have d3 : W3.heap[B]? = some (.deferred (some [])) := k3.same _ _ d2 rfl
      have hr := run_endRound (P := P) none l3
      exact ⟨_, _, hr, rfl, ⟨hI.putObj _ i3 (by omega) l3 rfl, World.putObj_heap_same (Array.getElem?_eq_some_iff.1 l3).1, (World.putObj_heap_other (by omega)).trans d3⟩, (b2.trans b3).trans (SameOn.grown (grownBy_putObj' W3 (B + 1) _) (fun q hq e => by have := hS q hq; injection e with e; omega))⟩
  · rintro e W2 ⟨⟨v, rfl⟩, hi, hl, hd⟩
    exact ⟨none, _, run_endLoop (P := P) hl (by simp [rec_]), hdone _ _ (Nat.le_refl _) (hI.putObj _ hi (by omega) hl rfl) ((World.putObj_heap_other (by omega)).trans hd)⟩
end Go.Proofs.YtihohljhjdmamaaGreat
