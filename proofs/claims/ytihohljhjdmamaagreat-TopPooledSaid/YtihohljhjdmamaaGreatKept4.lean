/- A disk of its own memory. -/
import Derived.Test.YtihohljhjdmamaaGreatKept3
import Derived.Deep.Onto
namespace Go.Proofs.YtihohljhjdmamaaGreat
open Go.RowKit
set_option linter.unusedVariables false

/-- a disk as a value -/
def dskV (S : Int) (ev wv : Value) (F : Int) (d : Bool) : Value := .agg #[.int .i64 S, ev, wv, .int .i64 F, .bool d]
def dskC (S : Int) (ev wv : Value) (F : Int) (d : Bool) : Array Value := #[.int .i64 S, ev, wv, .int .i64 F, .bool d]
theorem disk_size : (Tryz.prog.info? 26).map (·.size) = some 5 := by kernel_rfl
theorem row5 {w : World} {b : Nat} {x y z u v : Value} {t : TypeId} (h : w.heap[b]? = some (.cells #[x, y, z, u, v] t (0, 0))) :
    (w.cell? ⟨b, 0, none⟩ = some x ∧ w.cell? ⟨b, 1, none⟩ = some y ∧ w.cell? ⟨b, 2, none⟩ = some z ∧ w.cell? ⟨b, 3, none⟩ = some u ∧ w.cell? ⟨b, 4, none⟩ = some v) ∧ w.frozen? ⟨b, 0, none⟩ = false ∧ w.frozen? ⟨b, 1, none⟩ = false ∧ w.frozen? ⟨b, 2, none⟩ = false ∧ w.frozen? ⟨b, 3, none⟩ = false ∧ w.frozen? ⟨b, 4, none⟩ = false :=
  ⟨⟨row_cell h 0 x rfl, row_cell h 1 y rfl, row_cell h 2 z rfl, row_cell h 3 u rfl, row_cell h 4 v rfl⟩, row_free h 0, row_free h 1, row_free h 2, row_free h 3, row_free h 4⟩
theorem row_put5 {w : World} {b : Nat} {x y z u v : Value} {t : TypeId} (x' y' z' u' v' : Value) (hb : w.heap[b]? = some (.cells #[x, y, z, u, v] t (0, 0))) :
    (((((w.setCell ⟨b, 0, none⟩ x').setCell ⟨b, 1, none⟩ y').setCell ⟨b, 2, none⟩ z').setCell ⟨b, 3, none⟩ u').setCell ⟨b, 4, none⟩ v').heap[b]? = some (.cells #[x', y', z', u', v'] t (0, 0)) ∧ w.grownBy (((((w.setCell ⟨b, 0, none⟩ x').setCell ⟨b, 1, none⟩ y').setCell ⟨b, 2, none⟩ z').setCell ⟨b, 3, none⟩ u').setCell ⟨b, 4, none⟩ v') (some b) := by
  refine ⟨?_, grown_trans (grown_trans (grown_trans (grown_trans (grown_setCell w ⟨b, 0, none⟩ x') (grown_setCell _ ⟨b, 1, none⟩ y')) (grown_setCell _ ⟨b, 2, none⟩ z')) (grown_setCell _ ⟨b, 3, none⟩ u')) (grown_setCell _ ⟨b, 4, none⟩ v')⟩
  have h1 := heap_setCell_same w b 0 _ t x' hb
  have h2 := heap_setCell_same _ b 1 _ t y' h1
  have h3 := heap_setCell_same _ b 2 _ t z' h2
  have h4 := heap_setCell_same _ b 3 _ t u' h3
  exact heap_setCell_same _ b 4 _ t v' h4
/-- one's own block does not count -/
theorem grown_own {w w1 w2 : World} {b : Nat} (h : w.grownBy w1 none) (h2 : w1.grownBy w2 (some b)) (hb : w.heap.size ≤ b) : w.grownBy w2 none :=
  grown_bel ((bel_grown h (Nat.le_refl _)).grown h2 h.size (fun q e => by injection e with e; omega)) none
theorem cell_lt {w : World} {g j : Nat} {v : Value} (h : w.cell? ⟨g, j, none⟩ = some v) : g < w.heap.size := by
  rcases Nat.lt_or_ge g w.heap.size with h1 | h1
  · exact h1
  · simp [World.cell?, Array.getElem?_eq_none h1] at h
/-- what became of a clone -/
theorem own_keep {w w1 : World} {B C : Nat} {e : TypeId} {size : Nat} {v : Value} {n : Nat} {xs : List Value} (h : w.ownsRow B e size v n xs) (hg : w.grownBy w1 none) (hC : C ≤ B) : w1.ownsRow C e size v n xs :=
  World.ownsRow.mono (World.ownsRow.kept h hg (by cases hv : v.ownBlock with | none => exact .inl rfl | some k => exact .inr (by simp))) hC
theorem own_past {w w1 : World} {B b : Nat} {e : TypeId} {size : Nat} {v : Value} {n : Nat} {xs : List Value} (h : w.ownsRow B e size v n xs) (hg : w.grownBy w1 (some b)) (hb : b < B) : w1.ownsRow B e size v n xs :=
  World.ownsRow.kept h hg (.inr (fun e => by have := (World.ownsRow.lt h b e).1; omega))

set_option maxRecDepth 100000 in
set_option maxHeartbeats 4000000 in
theorem own_any (S F : Int) (d : Bool) (ev wv : Value) (ne nw : Nat) (xe xw : List Value) (w : World) (he : RowAt w ev ne xe) (hw : RowAt w wv nw xw) (le : xe.length = ne * 2) (lw : xw.length = nw * 3) (oe : ∀ u ∈ xe, u.oneCell' = true) (ow : ∀ u ∈ xw, u.oneCell' = true) (ne1 : ne ≤ 16384) (nw1 : nw ≤ 16384) :
    Calls Tryz.prog 21 #[.agg #[.int .i64 S, ev, wv, .int .i64 F, .bool d]] w fun e w' => ∃ ev' wv', e = .returned (.agg #[.int .i64 S, ev', wv', .int .i64 F, .bool d]) ∧ w'.ownsRow w.heap.size 62 2 ev' ne xe ∧ w'.ownsRow w.heap.size 98 3 wv' nw xw ∧ Hid (w.grownBy w' none) := by
  have HE := Lib.hid (fun W (hW : w.grownBy W none) => clone_ext ev ne xe W (he.grown hW) le oe ne1)
  have HW := Lib.hid (fun W (hW : w.grownBy W none) => clone_wts wv nw xw W (hw.grown hW) lw ow nw1)
  have HS := Lib.hid disk_size
  clear he hw le lw oe ow ne1 nw1
  have g1 := World.grownBy_alloc w (.cells #[.int .i64 S, ev, wv, .int .i64 F, .bool d] 26) none
  have q1 := heap_alloc_new w (.cells #[.int .i64 S, ev, wv, .int .i64 F, .bool d] 26)
  have g2 := World.grownBy_alloc (w.alloc (.cells #[.int .i64 S, ev, wv, .int .i64 F, .bool d] 26)) (.cells #[.int .i64 0, .slice none 0 0, .slice none 0 0, .int .i64 0, .bool false] 26) none
  have q2 := heap_alloc_new (w.alloc (.cells #[.int .i64 S, ev, wv, .int .i64 F, .bool d] 26)) (.cells #[.int .i64 0, .slice none 0 0, .slice none 0 0, .int .i64 0, .bool false] 26)
  go_enter Tryz.func21, Tryz.ntmps21
  go_wp2_with fail
  simp only [World.size_alloc] at q2
  have q1' := row_kept q1 g2 (by simp)
  have HG := Lib.hid (grown_trans g1 g2)
  generalize (w.alloc (.cells #[.int .i64 S, ev, wv, .int .i64 F, .bool d] 26)).alloc (.cells #[.int .i64 0, .slice none 0 0, .slice none 0 0, .int .i64 0, .bool false] 26) = W0 at *
  clear g1 g2 q1
  have HR := Lib.hid (fun W (hW : W0.grownBy W none) => row_kept q1' hW (by simp))
  obtain ⟨⟨_, a1, a2, _, _⟩, _, f1, f2, _, _⟩ := row5 q1'
  have Q2 := Lib.hid (fun W (hW : W0.grownBy W none) => row_kept q2 hW (by simp))
  clear q1' q2
  go_region_with (first
    | (go_at_call 46; refine (HE.out _ (by first | exact HG.out | exact grown_trans HG.out (grown_drew W0 none) | exact grown_trans HG.out gW | exact grown_trans HG.out (grown_trans gW (grown_drew _ none)))).mono ?_; rintro e wE ⟨aE, cE, rfl, hoE, hgE⟩; have gE : W0.grownBy wE none := (by first | exact hgE.out | exact grown_trans (grown_drew W0 none) hgE.out | exact grown_trans gW hgE.out | exact grown_trans gW (grown_trans (grown_drew _ none) hgE.out)); obtain ⟨⟨b0, b1, b2, b3, b4⟩, h0, h1, h2, h3, h4⟩ := row5 (HR.out wE gE); obtain ⟨⟨m0, m1, m2, m3, m4⟩, n0, n1, n2, n3, n4⟩ := row5 (Q2.out wE gE); have HoE := Lib.hid hoE; have HgE := hgE; clear hoE hgE)
    | (go_at_call 47; refine (HW.out _ (by first | exact HG.out | exact grown_trans HG.out (grown_drew W0 none) | exact grown_trans HG.out gE | exact grown_trans HG.out (grown_trans gE (grown_drew _ none)))).mono ?_; rintro e wW ⟨aW, cW, rfl, hoW, hgW⟩; have gW : W0.grownBy wW none := (by first | exact hgW.out | exact grown_trans (grown_drew W0 none) hgW.out | exact grown_trans gE hgW.out | exact grown_trans gE (grown_trans (grown_drew _ none) hgW.out)); obtain ⟨⟨d0, d1, d2, d3, d4⟩, k0, k1, k2, k3, k4⟩ := row5 (HR.out wW gW); obtain ⟨⟨o0, o1, o2, o3, o4⟩, r0, r1, r2, r3, r4⟩ := row5 (Q2.out wW gW); have HoW := Lib.hid hoW; have HgW := hgW; clear hoW hgW))
  all_goals
    have hs0 := Lib.hid (row_lt (HR.out W0 (grown_self _ _)))
    have hs1 := Lib.hid (row_lt (Q2.out W0 (grown_self _ _)))
    have fE := Lib.hid (own_keep (C := w.heap.size + 2) HoE.out HgW.out (by have := hs1.out; have := gE.size; simp only [World.size_drew]; omega))
    have fW := Lib.hid (own_keep (C := w.heap.size + 2) HoW.out (grown_self _ none) (by have := hs1.out; have := gE.size; omega))
    have fg := Lib.hid (grown_trans HG.out gW)
    have gb := Lib.hid (grown_trans (grown_setCell wW ⟨w.heap.size, 1, none⟩ (.slice aE ne cE)) (grown_setCell _ ⟨w.heap.size, 2, none⟩ (.slice aW nw cW)))
    have fq := Lib.hid (row_put5 (.int .i64 S) (.slice aE ne cE) (.slice aW nw cW) (.int .i64 F) (.bool d) (row_kept (Q2.out wW gW) gb.out (by intro e; injection e with e; simp only at e; omega)))
    clear HoE HoW HgE HgW gE gW hs0 hs1 HE HW HR Q2
    go_wp2_with fail
    refine bodyPost_ret (results_cell_row (fn := Tryz.f21) (p := 2) (ty := 26) rfl _ _ (w.heap.size + 1) 26 _ _ _ rfl fq.out.1 Tryz.underlying26 rfl HS.out) rfl ?_
    refine ⟨_, _, rfl, World.ownsRow.mono (own_past (own_past fE.out gb.out (by show w.heap.size < _; omega)) fq.out.2 (by omega)) (by omega), World.ownsRow.mono (own_past (own_past fW.out gb.out (by show w.heap.size < _; omega)) fq.out.2 (by omega)) (by omega), grown_own (grown_own fg.out gb.out (by show _ ≤ w.heap.size; omega)) fq.out.2 (by omega)⟩
end Go.Proofs.YtihohljhjdmamaaGreat
