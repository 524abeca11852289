/- A sector is read. -/
import Derived.Test.YtihohljhjdmamaaGreatKept12
import Derived.Test.YtihohljhjdmamaaGreatRangeN
namespace Go.Proofs.YtihohljhjdmamaaGreat
open Go.RowKit Go.Shelf
set_option linter.unusedVariables false
attribute [local go_sem] Oper.semAt_some

theorem wpIn_region_noPanic {F : Fence} {n : Nat} {P : Program} {id : Nat} {ops : Array Oper} {b : Bool} {Q : Exit → Act → World → Prop} {a : Act} {w : World} (h : (Code.region id ops b).wpIn F n P (NoPanic Q) a w) : (Code.region id ops b).wpIn F n P Q a w :=
  wpIn_mono h (fun e a w h => NoPanic.imp e a w h)
theorem results_two {P : Program} {fn : Func} {p q : Tmp} {tp tq : TypeId} (h : fn.results = #[.cell p tp, .cell q tq]) (tmps : Array Value) (w : World) (bp bq : Nat) (x y : Value)
    (hp : tmps.getD p undef = .pointer (some ⟨bp, 0, none⟩)) (hq : tmps.getD q undef = .pointer (some ⟨bq, 0, none⟩)) (hx : (loadVar tp ⟨bp, 0, none⟩).run P w = .ok x w) (hy : (loadVar tq ⟨bq, 0, none⟩).run P w = .ok y w) :
    (results fn tmps).run P w = .ok (.tuple #[x, y]) w := by
  have hp' : tmps[p]?.getD undef = .pointer (some ⟨bp, 0, none⟩) := by simpa using hp
  have hq' : tmps[q]?.getD undef = .pointer (some ⟨bq, 0, none⟩) := by simpa using hq
  simp [results, h, hp', hq', asAddr, hx, hy]
theorem load_str {w : World} {b : Nat} {x : Value} (h : w.cell? ⟨b, 0, none⟩ = some x) : (loadVar 9 ⟨b, 0, none⟩).run Tryz.prog w = .ok x w := by
  have a9 := Tryz.isAgg9
  simp [loadVar, a9, go_sem, h]
theorem load_err {w : World} {b : Nat} {x : Value} (h : w.cell? ⟨b, 0, none⟩ = some x) : (loadVar 27 ⟨b, 0, none⟩).run Tryz.prog w = .ok x w := by
  have a9 := Tryz.isAgg27
  simp [loadVar, a9, go_sem, h]
theorem read_fin {w W : World} {R2 R3 Dd : Nat} {t2 t3 : TypeId} {x0 y0 : Value} (x y : Value) (h2 : W.heap[R2]? = some (.cells #[x0] t2 (0, 0))) (h3 : W.heap[R3]? = some (.cells #[y0] t3 (0, 0))) (hne : R2 ≠ R3) (hD2 : R2 < Dd) (hD3 : R3 < Dd) (hw2 : w.heap.size ≤ R2) (hw3 : w.heap.size ≤ R3) (hg : w.grownBy W none) (hK : W.heap[Dd]? = some (.deferred (some []))) :
    (((W.setCell ⟨R2, 0, none⟩ x).setCell ⟨R3, 0, none⟩ y).drew.putObj Dd (.deferred none)).cell? ⟨R2, 0, none⟩ = some x ∧ (((W.setCell ⟨R2, 0, none⟩ x).setCell ⟨R3, 0, none⟩ y).drew.putObj Dd (.deferred none)).cell? ⟨R3, 0, none⟩ = some y ∧
    ((W.setCell ⟨R2, 0, none⟩ x).setCell ⟨R3, 0, none⟩ y).drew.heap[Dd]? = some (.deferred (some [])) ∧ w.grownBy (((W.setCell ⟨R2, 0, none⟩ x).setCell ⟨R3, 0, none⟩ y).drew.putObj Dd (.deferred none)) none := by
  have a2 := heap_setCell_same W R2 0 _ _ x h2
  have a3 := row_kept h3 (grown_setCell W ⟨R2, 0, none⟩ x) (by intro e; injection e with e; exact hne e)
  have b3 := heap_setCell_same _ R3 0 _ _ y a3
  have b2 := row_kept a2 (grown_setCell (W.setCell ⟨R2, 0, none⟩ x) ⟨R3, 0, none⟩ y) (by intro e; injection e with e; exact hne e.symm)
  have c2 := row_kept b2 (grown_drew _ none) (by simp)
  have c3 := row_kept b3 (grown_drew _ none) (by simp)
  have gp := grownBy_putObj' ((W.setCell ⟨R2, 0, none⟩ x).setCell ⟨R3, 0, none⟩ y).drew Dd (.deferred none)
  have k1 := row_kept hK (grown_setCell W ⟨R2, 0, none⟩ x) (by intro e; injection e with e; simp only at e; omega)
  have k2 := row_kept k1 (grown_setCell (W.setCell ⟨R2, 0, none⟩ x) ⟨R3, 0, none⟩ y) (by intro e; injection e with e; simp only at e; omega)
  have k3 := row_kept k2 (grown_drew _ none) (by simp)
  refine ⟨row_cell (row_kept c2 gp (by intro e; injection e with e; omega)) 0 _ rfl, row_cell (row_kept c3 gp (by intro e; injection e with e; omega)) 0 _ rfl, k3, ?_⟩
  exact grown_own (grown_trans (grown_own (grown_own hg (grown_setCell W ⟨R2, 0, none⟩ x) hw2) (grown_setCell _ ⟨R3, 0, none⟩ y) hw3) (grown_drew _ none)) gp (by omega)
/-- a loop over an iterator that hands on nothing -/
theorem rangeFunc_none {F : Fence} {n : Nat} {P : Program} {g : Operand} {ps : Array Tmp} {assign body : Code} {Q : Exit → Act → World → Prop} {a : Act} {w : World}
    (hro : F.round = none) (h1 : 1 ≤ n) {gf : Nat} {lb : Array Value} (hg : a.eval g = .func (.func gf) #[] lb) (hFg : F.fn gf) (eg : ∀ args w, (callFunc gf args).run P w = .ok (.enter gf args) w)
    (hseq : ∀ (l : Nat) (W : World), Below w.heap.size w W → CallsIn F (n - 1) P gf (#[.func (.yield l) #[] #[]] ++ lb) W fun e W' => (∃ v, e = .returned v) ∧ W' = W)
    (hdone : ∀ (D : Nat) (W : World), w.heap.size ≤ D → Below w.heap.size w W → W.heap[D]? = some (.deferred (some [])) → Q .normal { a with defers := { target := .collected D, args := #[] } :: a.defers } W) :
    (Code.rangeFunc g ps assign body).wpIn F n P Q a w := by
  refine wpIn_rangeFunc ?_
  intro fn hfn
  rw [hro]
  let B := w.heap.size
  let rec_ : LoopState → Loop := fun st => { state := st, pending := none, fn, tmps := a.tmps, params := ps, assign, body, defers := B }
  let W1 := (w.alloc (.deferred (some []))).alloc (.loop (rec_ .ready))
  have lW1 : W1.heap[B + 1]? = some (.loop (rec_ .ready)) := by
    have := World.alloc_heap_new (w.alloc (.deferred (some []))) (.loop (rec_ .ready))
    rwa [World.size_alloc] at this
  have dW1 : W1.heap[B]? = some (.deferred (some [])) := (Below.heap_alloc _ _ _ (by simp [B])).trans (World.alloc_heap_new w _)
  have bW1 : Below B w W1 := ((Below.refl _ w).alloc (Nat.le_refl _) _).alloc (by simp [B]) _
  refine ⟨B + 1, [{ target := .collected B, args := #[] }], W1, { target := .fn (.func gf) lb, args := #[.func (.yield (B + 1)) #[] #[]] }, W1, gf, #[.func (.yield (B + 1)) #[] #[]] ++ lb, W1, run_enterLoop_outer _ _ _ _ _, ?_, ?_, ?_, fun _ => h1, ?_⟩
  · simp only [resolve, hg]
    simp [go_sem]
  · intro f' hf'; simp [Target.leads] at hf'; subst hf'; exact hFg
  · simp [invoke, go_sem, eg]
  refine (hseq (B + 1) W1 bW1).mono ?_
  rintro e W2 ⟨⟨v, rfl⟩, hW2⟩
  subst hW2
  refine ⟨none, _, run_endLoop (P := P) lW1 (by simp [rec_]), hdone _ _ (Nat.le_refl _) ?_ ((World.putObj_heap_other (by omega)).trans dW1)⟩
  exact bW1.grown (grownBy_putObj' W1 (B + 1) _) bW1.size (fun k e => by injection e with e; omega)

set_option maxHeartbeats 1000000 in
theorem backward_in (F : Fence) (n : Nat) (h : F.fn 73) (hro : F.round = none) (a : Option Addr) (len cap : Nat) (w : World) :
    CallsIn F n Tryz.prog 73 #[.slice a len cap] w fun e w' => e = .returned (.func (.func 90) #[] #[.pointer (some ⟨w.heap.size, 0, none⟩)]) ∧ w' = w.alloc (.cells #[.slice a len cap] 24) := by
  refine callsIn_of_wp Tryz.func73 rfl h ?_ hro
  simp only [Tryz.ntmps73, List.size_toArray, List.length_cons, List.length_nil, Nat.reduceAdd, Nat.reduceSub, Array.replicate_succ, Array.replicate_zero, List.push_toArray, List.append_toArray, List.nil_append, List.cons_append]
  gi_wp2
  go_ret
  exact ⟨rfl, rfl⟩
set_option maxRecDepth 100000 in
set_option maxHeartbeats 2000000 in
theorem backward1_in (F : Fence) (n : Nat) (h : F.fn 90) (hro : F.round = none) (hn : 1 ≤ n) (l Bs : Nat) (a : Option Addr) (cap : Nat) (W : World) (hBs : W.cell? ⟨Bs, 0, none⟩ = some (.slice a 0 cap)) :
    CallsIn F n Tryz.prog 90 #[.func (.yield l) #[] #[], .pointer (some ⟨Bs, 0, none⟩)] W fun e W' => (∃ v, e = .returned v) ∧ W' = W := by
  refine callsIn_of_wp Tryz.func90 rfl h ?_ hro
  simp only [Tryz.ntmps90, List.size_toArray, List.length_cons, List.length_nil, Nat.reduceAdd, Nat.reduceSub, Array.replicate_succ, Array.replicate_zero, List.push_toArray, List.append_toArray, List.nil_append, List.cons_append]
  gi_wp2
  gi_loopw [3] (fun i wr => i = .int .i64 (-1) ∧ wr = W) (fun i _ => (intOf i + 1).toNat)
  case atStart => exact ⟨rfl, rfl⟩
  case round =>
    obtain ⟨rfl, hW⟩ := hrel
    obtain rfl : W = wr := hW.symm
    gi_wp2
    go_end0
    exact ⟨⟨_, rfl⟩, rfl⟩

set_option maxRecDepth 100000 in
set_option maxHeartbeats 4000000 in
theorem devread_ok {B b S m : Nat} {nm D : ByteArray} (s : Nat) (hD : D.size = 64 * m) (hs : s < m) (hm : m ≤ 16384) (w : World) (h : DevAt w B b S nm (some D) []) :
    Calls Tryz.prog 53 #[.pointer (some ⟨b, 0, none⟩), .string nm, .int .i64 (s : Nat)] w fun e w' => e = .returned (.tuple #[.string (D.extract (64 * s) (64 * s + 64)), .int .i64 0]) ∧ Hid (w.grownBy w' none) := by
  have HP := Lib.hid (fun W (hW : w.grownBy W none) => place_ok s hD hs hm W (h.grown hW))
  have HDv := Lib.hid (fun W (hW : w.grownBy W none) => h.grown hW)
  have q0 := heap_alloc_new w (.cells #[.string nm] 9)
  have g0 := World.grownBy_alloc w (.cells #[.string nm] 9) none
  have q1 := heap_alloc_new (w.alloc (.cells #[.string nm] 9)) (.cells #[.int .i64 (s : Nat)] 3)
  have g1 := World.grownBy_alloc (w.alloc (.cells #[.string nm] 9)) (.cells #[.int .i64 (s : Nat)] 3) none
  have q2 := heap_alloc_new ((w.alloc (.cells #[.string nm] 9)).alloc (.cells #[.int .i64 (s : Nat)] 3)) (.cells #[.string ⟨#[]⟩] 9)
  have g2 := World.grownBy_alloc ((w.alloc (.cells #[.string nm] 9)).alloc (.cells #[.int .i64 (s : Nat)] 3)) (.cells #[.string ⟨#[]⟩] 9) none
  have q3 := heap_alloc_new (((w.alloc (.cells #[.string nm] 9)).alloc (.cells #[.int .i64 (s : Nat)] 3)).alloc (.cells #[.string ⟨#[]⟩] 9)) (.cells #[.int .i64 0] 27)
  have g3 := World.grownBy_alloc (((w.alloc (.cells #[.string nm] 9)).alloc (.cells #[.int .i64 (s : Nat)] 3)).alloc (.cells #[.string ⟨#[]⟩] 9)) (.cells #[.int .i64 0] 27) none
  simp only [World.size_alloc] at q1 q2 q3
  clear h
  refine (callsIn_wide (n := 4)).1 ?_
  refine callsIn_of_wp_marks Tryz.func53 rfl trivial ?_ rfl
  simp only [Tryz.ntmps53, List.size_toArray, List.length_cons, List.length_nil, Nat.reduceAdd, Nat.reduceSub, Array.replicate_succ, Array.replicate_zero, List.push_toArray, List.append_toArray, List.nil_append, List.cons_append]
  gi_wp2_with fail
  have p0 := row_kept (row_kept (row_kept q0 g1 (by simp)) g2 (by simp)) g3 (by simp)
  have p1 := row_kept (row_kept q1 g2 (by simp)) g3 (by simp)
  have p2 := row_kept q2 g3 (by simp)
  have hg0 := grown_trans g0 (grown_trans g1 (grown_trans g2 g3))
  generalize (((w.alloc (.cells #[.string nm] 9)).alloc (.cells #[.int .i64 (s : Nat)] 3)).alloc (.cells #[.string ⟨#[]⟩] 9)).alloc (.cells #[.int .i64 0] 27) = W0 at *
  clear q0 q1 q2 g0 g1 g2 g3
  refine ⟨trivial, ((callsIn_wide (n := 3)).2 (HP.out _ hg0)).mono ?_⟩
  rintro e w1 ⟨rfl, hg1⟩
  simp only []
  have HG1 := Lib.hid (grown_trans hg0 hg1.out)
  obtain ⟨ae, ce, aw, cw, h1, h2, h3⟩ := (HDv.out w1 HG1.out).at_
  rw [show exN (some D) = 1 from rfl] at h1 h2
  obtain ⟨ge, ce', e1, c0, c1⟩ := (RowAt.of_owns h2).one
  injection e1 with e1 _ e3
  subst e1 e3
  obtain ⟨⟨r0, r1, r2, r3, r4⟩, _⟩ := row5 h1
  simp only [List.length_nil] at r2
  have P1 := Lib.hid (fun W (hW : w1.grownBy W none) => row_kept (row_kept p1 hg1.out (by simp)) hW (by simp))
  have P2 := Lib.hid (fun W (hW : w1.grownBy W none) => row_kept (row_kept p2 hg1.out (by simp)) hW (by simp))
  have P3 := Lib.hid (fun W (hW : w1.grownBy W none) => row_kept (row_kept q3 hg1.out (by simp)) hW (by simp))
  have R1 := Lib.hid (fun W (hW : w1.grownBy W none) => hW.cell r1 (by simp))
  have C1 := Lib.hid (fun W (hW : w1.grownBy W none) => hW.cell c1 (by simp))
  have hqb := heap_alloc_new w1 (.cells #[.slice aw 0 cw] 24)
  have hgb := World.grownBy_alloc w1 (.cells #[.slice aw 0 cw] 24) none
  clear h1 h2 h3 p0 p1 p2 q3 c0 c1 hg0 hg1 HP HDv
  gi_wp2_with fail
  refine ⟨trivial, (backward_in _ _ trivial rfl aw 0 cw w1).mono ?_⟩
  rintro e w2 ⟨rfl, hw2⟩
  subst hw2
  simp only []
  clear r0 r1 r2 r3 r4
  gi_wp2_with fail
  refine rangeFunc_none (P := Tryz.prog) rfl (by omega) (gf := 90) (lb := #[.pointer (some ⟨w1.heap.size, 0, none⟩)]) rfl trivial (enters_of Tryz.func90 (by kernel_rfl) rfl)
    (fun l W hW => backward1_in Fence.wide 3 trivial rfl (by omega) l _ aw cw W (row_cell (row_below hqb hW) 0 _ rfl)) ?_
  rintro Dd W hD hW hK
  have hgW := Lib.hid (grown_trans hgb (grown_bel hW none))
  have a1 := R1.out W hgW.out
  have a2 := C1.out W hgW.out
  have a3 := row_cell (P1.out W hgW.out) 0 _ rfl
  have a4 := row_cell (P2.out W hgW.out) 0 _ rfl
  have a5 := row_cell (P3.out W hgW.out) 0 _ rfl
  have f4 := row_free (P2.out W hgW.out) 0
  have f5 := row_free (P3.out W hgW.out) 0
  have hsm : 64 * (s : Int) + 64 ≤ (D.size : Int) := by omega
  have HFn := Lib.hid (read_fin (w := w) (.string (D.extract (64 * s) (64 * s + 64))) (.int .i64 0) (P2.out W hgW.out) (P3.out W hgW.out) (by omega) (by have := row_lt (P2.out w1 (grown_self _ _)); simp at hD; omega) (by have := row_lt (P3.out w1 (grown_self _ _)); simp at hD; omega) (by omega) (by omega) (grown_trans HG1.out hgW.out) hK)
  gi_wp2_with fail
  have e1 : (64 * (s : Int)).toNat = 64 * s := by omega
  have e2 : (64 * ((s : Int) + 1)).toNat = 64 * s + 64 := by omega
  have e3 : 64 * ((s : Int) + 1) ≤ (D.size : Int) := by omega
  have e4 : 64 * (s : Int) ≤ 64 * ((s : Int) + 1) := by omega
  have e5 : 0 ≤ 64 * (s : Int) := by omega
  have m1 : IntKind.i64.wrap (64 * (s : Int)) = 64 * (s : Int) := IntWalk.i64_in _ (by omega)
  have m2 : IntKind.i64.wrap ((s : Int) + 1) = (s : Int) + 1 := IntWalk.i64_in _ (by omega)
  have m3 : IntKind.i64.wrap (64 * ((s : Int) + 1)) = 64 * ((s : Int) + 1) := IntWalk.i64_in _ (by omega)
  refine wpIn_region_noPanic ?_
  gi_region_with (fail)
  all_goals
    refine NoPanic.normal ?_
    obtain ⟨u1, u2, u3, u4⟩ := HFn.out
    have U1 := Lib.hid u1
    have U2 := Lib.hid u2
    have U3 := Lib.hid u3
    have U4 := Lib.hid u4
    clear m1 m2 m3 e1 e2 e3 e4 e5 u1 u2 u3 u4 a1 a2 a3 a4 a5 f4 f5
    gi_wp2_with fail
    refine ⟨by simp, .inl ⟨_, _, rfl, run_takeDeferred U3.out, ?_⟩⟩
    exact ⟨_, results_two (fn := Tryz.f53) rfl _ _ (w.heap.size + 1 + 1) (w.heap.size + 1 + 1 + 1) _ _ rfl rfl (load_str U1.out) (load_err U2.out), rfl, U4⟩
end Go.Proofs.YtihohljhjdmamaaGreat
