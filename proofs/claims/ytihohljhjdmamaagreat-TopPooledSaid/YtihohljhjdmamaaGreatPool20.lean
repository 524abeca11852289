/- pool: the frames from round to round; a pool in a box. -/
import Derived.Test.YtihohljhjdmamaaGreatPool19
namespace Go.Proofs.YtihohljhjdmamaaGreat
open Go.RowKit
set_option linter.unusedVariables false

/-- the frames ahead of round i: none is pinned, each that holds holds an earlier sector -/
structure Rnd (F i : Nat) (fs : List (Nat × Nat)) : Prop where
  len : fs.length = F
  all : ∀ f ∈ fs, f.2 = 0 ∧ f.1 < i
  apart : ∀ (a b : Nat) (f g : Nat × Nat), a < b → fs[a]? = some f → fs[b]? = some g → f.1 = 0 ∨ g.1 = 0 ∨ f.1 ≠ g.1
theorem Rnd.start (F : Nat) : Rnd F 1 (List.replicate F (0, 0)) :=
  ⟨List.length_replicate, fun f hf => by rw [(List.mem_replicate.1 hf).2]; exact ⟨rfl, by decide⟩, fun a b f g _ ha _ => by
    have := List.mem_of_getElem? ha
    rw [(List.mem_replicate.1 this).2]; exact .inl rfl⟩
theorem Rnd.good {F i : Nat} {fs : List (Nat × Nat)} (h : Rnd F i fs) : ∀ f ∈ fs, FrOk f ∧ f.2 = 0 ∧ f.1 ≠ i := fun f hf => ⟨fun _ => (h.all f hf).1, (h.all f hf).1, by have := (h.all f hf).2; omega⟩
theorem Rnd.fs {F T m : Nat} {fs : List (Nat × Nat)} (h : Rnd F (T + 1) fs) (h1 : 1 ≤ F) (h2 : F ≤ 256) (hm : T < m) : FsOk m T fs :=
  ⟨by rw [h.len]; exact h1, by rw [h.len]; exact h2, fun f hf => (h.good f hf).1, fun f hf => by have := (h.all f hf).2; omega, fun f hf => by have := (h.all f hf).2; omega, fun f hf => by rw [(h.all f hf).1]; omega, h.apart⟩
theorem Rnd.apart' {F i p : Nat} {fs : List (Nat × Nat)} (h : Rnd F i fs) (k : Nat) : ∀ (a b : Nat) (f g : Nat × Nat), a < b → (fs.set k (i, p))[a]? = some f → (fs.set k (i, p))[b]? = some g → f.1 = 0 ∨ g.1 = 0 ∨ f.1 ≠ g.1 := by
  intro a b f g hab ha hb
  rw [List.getElem?_set] at ha hb
  by_cases e1 : k = a
  · rw [if_pos e1] at ha
    rw [if_neg (by omega)] at hb
    split at ha
    · injection ha with ha
      have := (h.all g (List.mem_of_getElem? hb)).2
      rw [← ha]
      exact .inr (.inr (by show i ≠ g.1; omega))
    · cases ha
  · rw [if_neg e1] at ha
    by_cases e2 : k = b
    · rw [if_pos e2] at hb
      split at hb
      · injection hb with hb
        have := (h.all f (List.mem_of_getElem? ha)).2
        rw [← hb]
        exact .inr (.inr (by show f.1 ≠ i; omega))
      · cases hb
    · rw [if_neg e2] at hb
      exact h.apart a b f g hab ha hb
theorem Rnd.pin {F T m p : Nat} {fs : List (Nat × Nat)} (h : Rnd F (T + 1) fs) (h1 : 1 ≤ F) (h2 : F ≤ 256) (hm : T + 1 < m) (hp : p ≤ 256) (k : Nat) : FsOk m (T + 1) (fs.set k (T + 1, p)) := by
  have hmem : ∀ f ∈ fs.set k (T + 1, p), f = (T + 1, p) ∨ f ∈ fs := fun f hf => (List.mem_or_eq_of_mem_set hf).symm
  refine ⟨by rw [List.length_set, h.len]; exact h1, by rw [List.length_set, h.len]; exact h2, fun f hf => ?_, fun f hf => ?_, fun f hf => ?_, fun f hf => ?_, h.apart' k⟩
  all_goals rcases hmem f hf with rfl | h9
  · intro h0; simp at h0
  · exact (h.good f h9).1
  · exact hm
  · have := (h.all f h9).2; omega
  · exact Nat.le_refl _
  · have := (h.all f h9).2; omega
  · exact hp
  · rw [(h.all f h9).1]; omega
theorem Rnd.next {F T : Nat} {fs : List (Nat × Nat)} (h : Rnd F (T + 1) fs) (k : Nat) : Rnd F (T + 1 + 1) (fs.set k (T + 1, 0)) := by
  refine ⟨by rw [List.length_set, h.len], fun f hf => ?_, h.apart' k⟩
  rcases (List.mem_or_eq_of_mem_set hf).symm with rfl | h9
  · exact ⟨rfl, by show T + 1 < T + 1 + 1; omega⟩
  · have := h.all f h9; exact ⟨this.1, by omega⟩
/-- a pool is stored over another, in a box -/
theorem put_pl {w5 : World} {P S T R : Nat} {nm D : ByteArray} {fs : List (Nat × Nat)} {ae aw af : Option Addr} {ce cw cf : Nat} {z : Int} {x1 x2 x3 x4 x5 x6 x7 x8 : Value} (n : Nat) (hn : fs.length = n) (tI rI : Int) (ht : tI = (T : Nat)) (hr : rI = (R : Nat)) (hrow : w5.heap[P]? = some (.cells #[.int .i64 z, x1, x2, x3, x4, x5, x6, x7, x8] 36 (0, 0)))
    (hcf : fs.length ≤ cf) (he : w5.ownsRow 0 62 2 (.slice ae 1 ce) 1 (exC nm (some D))) (hw : w5.ownsRow 0 98 3 (.slice aw 0 cw) 0 []) (hf : FrsAt w5 nm D (.slice af fs.length cf) fs) :
    ∃ W, (((((((((w5.setCell ⟨P, 0, none⟩ (.int .i64 (S : Nat))).setCell ⟨P, 1, none⟩ (.slice ae 1 ce)).setCell ⟨P, 2, none⟩ (.slice aw 0 cw)).setCell ⟨P, 3, none⟩ (.int .i64 (-1))).setCell ⟨P, 4, none⟩ (.bool false)).setCell ⟨P, 5, none⟩ (.slice af n cf)).setCell ⟨P, 6, none⟩ (.int .u64 tI)).setCell ⟨P, 7, none⟩ (.int .u64 rI)).setCell ⟨P, 8, none⟩ (.int .u64 0)) = W ∧
      Hid (W.heap[P]? = some (.cells #[.int .i64 (S : Nat), .slice ae 1 ce, .slice aw 0 cw, .int .i64 (-1), .bool false, .slice af n cf, .int .u64 (T : Nat), .int .u64 (R : Nat), .int .u64 0] 36 (0, 0))) ∧
      Hid (PlAt W S nm D fs T R (.agg #[.int .i64 (S : Nat), .slice ae 1 ce, .slice aw 0 cw, .int .i64 (-1), .bool false, .slice af n cf, .int .u64 (T : Nat), .int .u64 (R : Nat), .int .u64 0])) ∧ Hid (w5.grownBy W (some P)) := by
  have hput := row_put9 (.int .i64 (S : Nat)) (.slice ae 1 ce) (.slice aw 0 cw) (.int .i64 (-1)) (.bool false) (.slice af n cf) (.int .u64 tI) (.int .u64 rI) (.int .u64 0) hrow
  refine ⟨_, rfl, ?_⟩
  generalize (((((((((w5.setCell ⟨P, 0, none⟩ (.int .i64 (S : Nat))).setCell ⟨P, 1, none⟩ (.slice ae 1 ce)).setCell ⟨P, 2, none⟩ (.slice aw 0 cw)).setCell ⟨P, 3, none⟩ (.int .i64 (-1))).setCell ⟨P, 4, none⟩ (.bool false)).setCell ⟨P, 5, none⟩ (.slice af n cf)).setCell ⟨P, 6, none⟩ (.int .u64 tI)).setCell ⟨P, 7, none⟩ (.int .u64 rI)).setCell ⟨P, 8, none⟩ (.int .u64 0)) = W at hput ⊢
  have c0 : w5.cell? ⟨P, 0, none⟩ = some (.int .i64 z) := row_cell hrow 0 _ rfl
  have hhd : frsC nm D fs = [] ∨ ∃ s, (frsC nm D fs)[0]? = some (.string s) := by
    cases fs with
    | nil => exact .inl rfl
    | cons f fs => exact .inr ⟨nmO nm f, rfl⟩
  subst ht hr hn
  exact ⟨hput.1, ⟨ae, ce, aw, cw, af, cf, hcf, rfl, World.ownsRow.kept he hput.2 (.inr (own_ne_row he hrow (by decide))), World.ownsRow.kept hw hput.2 (.inr (own_ne_row hw hrow (by decide))), RowAt.put hf hhd c0 hput.2⟩, hput.2⟩
end Go.Proofs.YtihohljhjdmamaaGreat
