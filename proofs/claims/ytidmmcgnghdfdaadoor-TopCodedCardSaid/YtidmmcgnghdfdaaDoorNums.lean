/- Slices of numbers of 64 bits: where they lie; small laws. -/
import Derived.Test.YtidmmcgnghdfdaaDoorRows
import Derived.Test.YtidmmcgnghdfdaaDoorKit4
import Derived.Handy
import Derived.BigRegion
import Derived.Deep.QuietTactic
import Derived.BigQuiet
import Derived.Outline
namespace Go.Proofs.YtidmmcgnghdfdaaDoor
open Go.RowKit
set_option linter.unusedVariables false

/-- v is a slice that holds the numbers xs -/
def NumsAt (w : World) (v : Value) (xs : List Nat) : Prop := ∃ a cap, v = .slice a xs.length cap ∧ xs.length ≤ maxLen ∧ ∀ i (hi : i < xs.length), ∃ x, a = some x ∧ w.cell? (x.add i) = some (.int .u64 (xs[i] : Nat))
theorem NumsAt.below {w w' : World} {v : Value} {xs : List Nat} (h : NumsAt w v xs) (hb : Below w.heap.size w w') : NumsAt w' v xs := by
  obtain ⟨a, cap, h1, h2, h3⟩ := h
  refine ⟨a, cap, h1, h2, fun i hi => ?_⟩
  obtain ⟨x, h4, h5⟩ := h3 i hi
  exact ⟨x, h4, (show w.grownBy w' none from ⟨hb.os, hb.tape, hb.output, hb.size, fun k hk _ => hb.block k hk⟩).cell h5 (by simp)⟩
theorem NumsAt.drewN {w : World} {v : Value} {xs : List Nat} (h : NumsAt w v xs) (n : Nat) : NumsAt (w.drewN n) v xs := h
def ncells (l : List Nat) : List Value := l.map fun n => .int .u64 (n : Nat)
theorem ncells_length (l : List Nat) : (ncells l).length = l.length := by simp [ncells]
theorem ncells_append (l m : List Nat) : ncells (l ++ m) = ncells l ++ ncells m := by simp [ncells]
theorem elemNums : ElemOf Tryd.prog 24 25 (.int .u64 0) 8 := ⟨Tryd.underlying24, by kernel_rfl, rfl⟩
theorem NumsAt.of_owns {w : World} {B : Nat} {v : Value} {l : List Nat} (h : Owns w B 25 v (ncells l)) (hl : l.length ≤ maxLen) : NumsAt w v l := by
  rcases h.shape with ⟨rfl, h2⟩ | ⟨g, cap, rfl, h2, h3, h4, h5⟩
  · have : l = [] := by simpa [ncells] using h2
    subst this
    exact ⟨none, 0, rfl, Nat.zero_le _, fun i hi => by simp at hi⟩
  · refine ⟨some ⟨g, 0, none⟩, cap, by rw [ncells_length], hl, fun i hi => ⟨_, rfl, ?_⟩⟩
    rw [add_plain, Nat.zero_add, h.cell i (by rw [ncells_length]; exact hi)]
    simp [ncells]
theorem NumsAt.bel {w W : World} {a : Option Addr} {xs : List Nat} (h : ∀ i (hi : i < xs.length), ∃ x, a = some x ∧ w.cell? (x.add i) = some (.int .u64 (xs[i] : Nat))) (hb : Below w.heap.size w W) :
    ∀ i (hi : i < xs.length), ∃ x, a = some x ∧ W.cell? (x.add i) = some (.int .u64 (xs[i] : Nat)) := fun i hi => by
  obtain ⟨x, h4, h5⟩ := h i hi
  exact ⟨x, h4, (grown_bel hb none).cell h5 (by simp)⟩
theorem ncells_one (l : List Nat) : ∀ v ∈ ncells l, v.oneCell' = true := by
  intro v hv
  obtain ⟨b, _, rfl⟩ := List.mem_map.1 hv
  rfl
theorem Grew.of_drew {w w1 : World} {v v1 : Value} (h : Grew w.drew v w1 v1) : Grew w v w1 v1 := (Grew.of_none v (grown_drew w none)).trans h
theorem Grew.of_alloc {w w1 : World} {o : Obj} {v v1 : Value} (h : Grew (w.alloc o) v w1 v1) : Grew w v w1 v1 := (Grew.of_none v (World.grownBy_alloc w o none)).trans h
theorem Owns.alloc' {w : World} {B : Nat} {e : TypeId} {v : Value} {xs : List Value} (h : Owns w B e v xs) (o : Obj) : Owns (w.alloc o) B e v xs := h.kept (World.grownBy_alloc w o none) (fun k hk => by cases hk)
theorem size_alloc_le {w : World} {B : Nat} {o : Obj} (h : B ≤ w.heap.size) : B ≤ (w.alloc o).heap.size := by simp; omega
theorem NumsAt.grown {w w' : World} {v : Value} {xs : List Nat} (h : NumsAt w v xs) (hg : w.grownBy w' none) : NumsAt w' v xs := h.below (bel_grown hg (Nat.le_refl _))
theorem NumsAt.new (w : World) (xs : List Nat) (e : TypeId) (hm : xs.length ≤ maxLen) (c : Nat) : NumsAt (w.alloc (.cells (ncells xs).toArray e)) (.slice (some ⟨w.heap.size, 0, none⟩) xs.length c) xs := by
  refine ⟨_, c, rfl, hm, fun i hi => ⟨_, rfl, ?_⟩⟩
  rw [add_plain, Nat.zero_add, cell_of_row _ _ _ _ _ _ (heap_alloc_new w _)]
  simp [ncells, hi]
theorem NumsAt.src {w : World} {v : Value} {xs : List Nat} (h : NumsAt w v xs) (hne : 0 < xs.length) : Src w v (ncells xs) := by
  obtain ⟨a, cp, rfl, _, hc⟩ := h
  obtain ⟨x, rfl, _⟩ := hc 0 hne
  refine .inr ⟨x, cp, by rw [ncells_length], fun j y hj => ?_⟩
  obtain ⟨hlt, rfl⟩ := List.getElem?_eq_some_iff.1 hj
  rw [ncells_length] at hlt
  obtain ⟨x', h1, h2⟩ := hc j hlt
  injection h1 with h1
  subst h1
  rw [h2]
  simp [ncells]
theorem Owns.none_made (w : World) (e : TypeId) : Owns (w.alloc (.cells #[] e)) w.heap.size e (.slice (some ⟨w.heap.size, 0, none⟩) 0 0) [] := by
  unfold Owns
  exact ⟨rfl, .inr ⟨_, _, _, rfl, Nat.le_refl _, heap_alloc_new w _, Nat.le_refl _, Nat.zero_le _, rfl, rfl⟩⟩
def IsRow (k : IntKind) (w : World) (a : Option Addr) (len cap : Nat) (zs : List Int) : Prop :=
  (a = none ∧ len = 0 ∧ cap = 0 ∧ zs = []) ∨
  ∃ x, a = some x ∧ len ≤ cap ∧ cap ≤ maxLen ∧ zs.length = cap ∧ (∀ i, i < zs.length → w.cell? (x.add i) = some (.int k (zs.getD i 0))) ∧ ∀ n ∈ zs, (Lit.int k n).wf = true
theorem nums_of_row {w : World} {a : Option Addr} {len cap : Nat} {zs : List Int} (h : IsRow .u64 w a len cap zs) :
    ∃ L : List Nat, L.length = len ∧ len ≤ cap ∧ (∀ x ∈ L, x < 18446744073709551616) ∧ NumsAt w (.slice a len cap) L := by
  rcases h with ⟨rfl, rfl, rfl, _⟩ | ⟨x, rfl, hl, hm, hz, hc, hwf⟩
  · exact ⟨[], rfl, Nat.le_refl _, by simp, none, 0, rfl, Nat.zero_le _, fun i hi => by simp at hi⟩
  · have hb : ∀ n ∈ zs, 0 ≤ n ∧ n < 18446744073709551616 := fun n hn => by
      have hm := hwf n hn
      simp [Lit.wf, IntKind.min, IntKind.max, IntKind.signed, IntKind.bits] at hm
      omega
    refine ⟨(zs.take len).map Int.toNat, by simp; omega, hl, ?_, some x, cap, by simp; omega, by simp; omega, fun i hi => ⟨x, rfl, ?_⟩⟩
    · intro y hy
      obtain ⟨n, hn, rfl⟩ := List.mem_map.1 hy
      have := hb n (List.mem_of_mem_take hn)
      omega
    · simp at hi
      have hi2 : i < zs.length := by omega
      rw [hc i hi2]
      have := hb zs[i] (List.getElem_mem hi2)
      simp [hi2]
      omega
theorem NumsAt.take {w : World} {a : Option Addr} {len cap : Nat} {xs : List Nat} (h : NumsAt w (.slice a len cap) xs) (n : Nat) (hn : n ≤ xs.length) (c : Nat) : NumsAt w (.slice a n c) (xs.take n) := by
  obtain ⟨a', cp, h1, h2, h3⟩ := h
  injection h1 with h1
  subst h1
  have hl : (xs.take n).length = n := by rw [List.length_take]; omega
  refine ⟨a, c, by rw [hl], by omega, fun i hi => ?_⟩
  obtain ⟨x, h4, h5⟩ := h3 i (by omega)
  refine ⟨x, h4, ?_⟩
  rw [h5]
  simp
end Go.Proofs.YtidmmcgnghdfdaaDoor
