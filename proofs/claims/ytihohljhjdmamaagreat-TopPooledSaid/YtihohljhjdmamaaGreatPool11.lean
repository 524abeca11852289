/- pool: an arena, cell by cell. -/
import Derived.Test.YtihohljhjdmamaaGreatPool10
namespace Go.Proofs.YtihohljhjdmamaaGreat
open Go.RowKit
set_option linter.unusedVariables false

/-- a write into a block of another type leaves a disk at work -/
theorem DevAt.past {w w' : World} {B b S r : Nat} {nm : ByteArray} {E : Option ByteArray} {ws : List (Nat × ByteArray)} {cs : Array Value} {t : TypeId} {fz : Nat × Nat} (h : DevAt w B b S nm E ws) (hr : w.heap[r]? = some (.cells cs t fz)) (h1 : t ≠ 59) (h2 : t ≠ 62) (h3 : t ≠ 98) (hg : w.grownBy w' (some r)) : DevAt w' B b S nm E ws := by
  obtain ⟨ae, ce, aw, cw, q1, q2, q3⟩ := h.at_
  refine ⟨h.low, ae, ce, aw, cw, row_kept q1 hg (fun e => ?_), World.ownsRow.kept q2 hg (.inr (own_ne_row q2 hr h2)), World.ownsRow.kept q3 hg (.inr (own_ne_row q3 hr h3))⟩
  injection e with e
  rw [e, q1] at hr
  injection hr with hr
  injection hr with _ hr
  exact h1 hr.symm

/-- an arena at work: its cells, its frames' cells -/
structure ArX (w : World) (B a b S g n cf : Nat) (nm D : ByteArray) (xs : List Value) (T R pk : Int) : Prop where
  low : B ≤ a
  lowg : B ≤ g
  size : B ≤ w.heap.size
  dev : DevAt w B b S nm (some D) []
  row : w.heap[a]? = some (.cells #[.pointer (some ⟨b, 0, none⟩), .slice (some ⟨g, 0, none⟩) n cf, .int .u64 T, .int .u64 R, .int .u64 0, .int .i64 pk] 100 (0, 0))
  own : w.ownsRow B 106 7 (.slice (some ⟨g, 0, none⟩) n cf) n xs
theorem ArX.grow {w w' : World} {B a b S g n cf : Nat} {nm D : ByteArray} {xs : List Value} {T R pk : Int} (h : ArX w B a b S g n cf nm D xs T R pk) (hg : w.grownBy w' none) : ArX w' B a b S g n cf nm D xs T R pk :=
  ⟨h.low, h.lowg, Nat.le_trans h.size hg.size, h.dev.grown hg, row_kept h.row hg (by simp), own_keep h.own hg (Nat.le_refl _)⟩
theorem ArX.frow {w : World} {B a b S g n cf : Nat} {nm D : ByteArray} {xs : List Value} {T R pk : Int} (h : ArX w B a b S g n cf nm D xs T R pk) : ∃ cur, w.heap[g]? = some (.cells cur 106 (0, 0)) := by
  rcases h.own.2 with ⟨h', _⟩ | ⟨g', cap', cur, h', hb, hg, _⟩
  · simp at h'
  · simp only [Value.slice.injEq, Option.some.injEq, Addr.mk.injEq, and_true, true_and] at h'
    obtain ⟨rfl, rfl⟩ := h'
    exact ⟨cur, hg⟩
theorem ArX.ne {w : World} {B a b S g n cf : Nat} {nm D : ByteArray} {xs : List Value} {T R pk : Int} (h : ArX w B a b S g n cf nm D xs T R pk) : g ≠ a := by
  obtain ⟨cur, hc⟩ := h.frow
  intro e
  rw [e, h.row] at hc
  injection hc with hc
  injection hc with _ hc
  exact absurd hc (by decide)
/-- a frame's cell is stored -/
theorem ArX.put {w : World} {B a b S g n cf : Nat} {nm D : ByteArray} {xs : List Value} {T R pk : Int} (h : ArX w B a b S g n cf nm D xs T R pk) (j : Nat) (u : Value) : ArX (w.setCell ⟨g, j, none⟩ u) B a b S g n cf nm D (xs.set j u) T R pk ∧ Below B w (w.setCell ⟨g, j, none⟩ u) := by
  obtain ⟨h1, h2⟩ := h.own.stored j u
  obtain ⟨cur, hc⟩ := h.frow
  exact ⟨⟨h.low, h.lowg, Nat.le_trans h.size h2.size, h.dev.past hc (by decide) (by decide) (by decide) h2, row_kept h.row h2 (fun e => h.ne (Option.some.inj e)), h1⟩, below_grown h2 h.lowg h.size⟩
/-- a cell of its own is stored -/
theorem ArX.putA {w : World} {B a b S g n cf : Nat} {nm D : ByteArray} {xs : List Value} {T R pk T' R' pk' : Int} (h : ArX w B a b S g n cf nm D xs T R pk) (i : Nat) (u : Value) (he : (#[.pointer (some ⟨b, 0, none⟩), .slice (some ⟨g, 0, none⟩) n cf, .int .u64 T, .int .u64 R, .int .u64 0, .int .i64 pk] : Array Value).setIfInBounds i u = #[.pointer (some ⟨b, 0, none⟩), .slice (some ⟨g, 0, none⟩) n cf, .int .u64 T', .int .u64 R', .int .u64 0, .int .i64 pk']) : ArX (w.setCell ⟨a, i, none⟩ u) B a b S g n cf nm D xs T' R' pk' ∧ Below B w (w.setCell ⟨a, i, none⟩ u) := by
  have hg := grown_setCell w ⟨a, i, none⟩ u
  exact ⟨⟨h.low, h.lowg, Nat.le_trans h.size hg.size, h.dev.past h.row (by decide) (by decide) (by decide) hg, by rw [heap_setCell_same _ a i _ _ _ h.row, he], World.ownsRow.kept h.own hg (.inr (own_ne_row h.own h.row (by decide)))⟩, below_grown hg h.low h.size⟩
theorem ArX.drewN {w : World} {B a b S g n cf : Nat} {nm D : ByteArray} {xs : List Value} {T R pk : Int} (h : ArX w B a b S g n cf nm D xs T R pk) (k : Nat) : ArX (w.drewN k) B a b S g n cf nm D xs T R pk := h.grow (grown_drewN w k none)
theorem ArX.cells {w : World} {B a b S g n cf : Nat} {nm D : ByteArray} {xs : List Value} {T R pk : Int} (h : ArX w B a b S g n cf nm D xs T R pk) : w.cell? ⟨a, 0, none⟩ = some (.pointer (some ⟨b, 0, none⟩)) ∧ w.cell? ⟨a, 1, none⟩ = some (.slice (some ⟨g, 0, none⟩) n cf) ∧ w.cell? ⟨a, 2, none⟩ = some (.int .u64 T) ∧ w.cell? ⟨a, 3, none⟩ = some (.int .u64 R) ∧ w.cell? ⟨a, 4, none⟩ = some (.int .u64 0) ∧ w.cell? ⟨a, 5, none⟩ = some (.int .i64 pk) :=
  ⟨row_cell h.row 0 _ rfl, row_cell h.row 1 _ rfl, row_cell h.row 2 _ rfl, row_cell h.row 3 _ rfl, row_cell h.row 4 _ rfl, row_cell h.row 5 _ rfl⟩
theorem ArX.fcell {w : World} {B a b S g n cf : Nat} {nm D : ByteArray} {xs : List Value} {T R pk : Int} (h : ArX w B a b S g n cf nm D xs T R pk) (j : Nat) (u : Value) (hj : xs[j]? = some u) : w.cell? ⟨g, j, none⟩ = some u := by
  have hlt := (List.getElem?_eq_some_iff.1 hj).1
  rw [h.own.cellAt j (by rw [← h.own.1]; exact hlt), hj]
theorem ArX.ffree {w : World} {B a b S g n cf : Nat} {nm D : ByteArray} {xs : List Value} {T R pk : Int} (h : ArX w B a b S g n cf nm D xs T R pk) (j : Nat) : w.frozen? ⟨g, j, none⟩ = false := h.own.frozenAt j
theorem ArX.afree {w : World} {B a b S g n cf : Nat} {nm D : ByteArray} {xs : List Value} {T R pk : Int} (h : ArX w B a b S g n cf nm D xs T R pk) (j : Nat) : w.frozen? ⟨a, j, none⟩ = false := row_free h.row j
theorem ArAt.x {w : World} {B a b S T R : Nat} {nm D : ByteArray} {fs : List (Nat × Nat)} (h : ArAt w B a b S nm D fs T R) (h1 : 1 ≤ fs.length) (hB : B ≤ w.heap.size) : ∃ g cf pk, ArX w B a b S g fs.length cf nm D (frsC nm D fs) (T : Nat) (R : Nat) pk := by
  obtain ⟨af, cf, pk, q1, q2⟩ := h.at_
  rcases q2.2 with ⟨h', hz⟩ | ⟨g, cap, cur, h', hb, _⟩
  · omega
  · injection h' with e1 _ e2
    subst e1
    exact ⟨g, cf, pk, h.low, hb, hB, h.dev, q1, q2⟩
theorem ArX.at_ {w : World} {B a b S g n cf T R : Nat} {nm D : ByteArray} {fs : List (Nat × Nat)} {xs : List Value} {pk : Int} (h : ArX w B a b S g n cf nm D xs (T : Nat) (R : Nat) pk) (hn : n = fs.length) (hx : xs = frsC nm D fs) : ArAt w B a b S nm D fs T R := by
  subst hn hx
  exact ⟨h.low, h.dev, some ⟨g, 0, none⟩, cf, pk, h.row, h.own⟩
/-- a frame of it -/
theorem ArX.frame {w : World} {B a b S g n cf : Nat} {nm D : ByteArray} {fs : List (Nat × Nat)} {T R pk : Int} (h : ArX w B a b S g n cf nm D (frsC nm D fs) T R pk) (i : Nat) (f : Nat × Nat) (hf : fs[i]? = some f) : FrAt w nm D g i f := by
  have hq := frsC_get nm D fs i f hf
  exact ⟨h.fcell _ _ (hq 0 (by omega)), h.fcell _ _ (hq 1 (by omega)), h.fcell _ _ (hq 2 (by omega)), h.fcell _ _ (hq 3 (by omega)), h.fcell _ _ (hq 4 (by omega)), h.fcell _ _ (hq 5 (by omega)), h.fcell _ _ (hq 6 (by omega))⟩
/-- all cells of a frame are stored -/
theorem ArX.put7 {w : World} {B a b S g n cf : Nat} {nm D : ByteArray} {xs : List Value} {T R pk : Int} (h : ArX w B a b S g n cf nm D xs T R pk) (k : Nat) (x0 x1 x2 x3 x4 x5 x6 : Value) :
    ArX (((((((w.setCell ⟨g, k * 7, none⟩ x0).setCell ⟨g, k * 7 + 1, none⟩ x1).setCell ⟨g, k * 7 + 2, none⟩ x2).setCell ⟨g, k * 7 + 3, none⟩ x3).setCell ⟨g, k * 7 + 4, none⟩ x4).setCell ⟨g, k * 7 + 5, none⟩ x5).setCell ⟨g, k * 7 + 6, none⟩ x6) B a b S g n cf nm D (((((((xs.set (k * 7) x0).set (k * 7 + 1) x1).set (k * 7 + 2) x2).set (k * 7 + 3) x3).set (k * 7 + 4) x4).set (k * 7 + 5) x5).set (k * 7 + 6) x6) T R pk ∧
    Below B w (((((((w.setCell ⟨g, k * 7, none⟩ x0).setCell ⟨g, k * 7 + 1, none⟩ x1).setCell ⟨g, k * 7 + 2, none⟩ x2).setCell ⟨g, k * 7 + 3, none⟩ x3).setCell ⟨g, k * 7 + 4, none⟩ x4).setCell ⟨g, k * 7 + 5, none⟩ x5).setCell ⟨g, k * 7 + 6, none⟩ x6) := by
  obtain ⟨h0, b0⟩ := h.put (k * 7) x0
  obtain ⟨h1, b1⟩ := h0.put (k * 7 + 1) x1
  obtain ⟨h2, b2⟩ := h1.put (k * 7 + 2) x2
  obtain ⟨h3, b3⟩ := h2.put (k * 7 + 3) x3
  obtain ⟨h4, b4⟩ := h3.put (k * 7 + 4) x4
  obtain ⟨h5, b5⟩ := h4.put (k * 7 + 5) x5
  obtain ⟨h6, b6⟩ := h5.put (k * 7 + 6) x6
  exact ⟨h6, (((((b0.trans b1).trans b2).trans b3).trans b4).trans b5).trans b6⟩
end Go.Proofs.YtihohljhjdmamaaGreat
