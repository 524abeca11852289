/- pool: Check. -/
import Derived.Test.YtihohljhjdmamaaGreatPool5
namespace Go.Proofs.YtihohljhjdmamaaGreat
open Go.RowKit
set_option linter.unusedVariables false

/-- the frames of a pool at work: over m sectors, behind T ticks -/
structure FsOk (m T : Nat) (fs : List (Nat × Nat)) : Prop where
  one : 1 ≤ fs.length
  few : fs.length ≤ 256
  ok : ∀ f ∈ fs, FrOk f
  lt : ∀ f ∈ fs, f.1 < m
  le : ∀ f ∈ fs, f.1 ≤ T
  pins : ∀ f ∈ fs, f.2 ≤ 256
  apart : ∀ (i j : Nat) (f g : Nat × Nat), i < j → fs[i]? = some f → fs[j]? = some g → f.1 = 0 ∨ g.1 = 0 ∨ f.1 ≠ g.1
/-- a pool as plain data -/
structure PlAt (w : World) (S : Nat) (nm D : ByteArray) (fs : List (Nat × Nat)) (T R : Nat) (v : Value) : Prop where
  form : ∃ ae ce aw cw af cf, fs.length ≤ cf ∧ v = .agg #[.int .i64 (S : Nat), .slice ae 1 ce, .slice aw 0 cw, .int .i64 (-1), .bool false, .slice af fs.length cf, .int .u64 (T : Nat), .int .u64 (R : Nat), .int .u64 0] ∧
    w.ownsRow 0 62 2 (.slice ae 1 ce) 1 (exC nm (some D)) ∧ w.ownsRow 0 98 3 (.slice aw 0 cw) 0 [] ∧ FrsAt w nm D (.slice af fs.length cf) fs
theorem PlAt.grown {w w' : World} {S : Nat} {nm D : ByteArray} {fs : List (Nat × Nat)} {T R : Nat} {v : Value} (h : PlAt w S nm D fs T R v) (hg : w.grownBy w' none) : PlAt w' S nm D fs T R v := by
  obtain ⟨ae, ce, aw, cw, af, cf, h0, h1, h2, h3, h4⟩ := h.form
  exact ⟨ae, ce, aw, cw, af, cf, h0, h1, own_keep h2 hg (Nat.le_refl _), own_keep h3 hg (Nat.le_refl _), h4.grown hg⟩
theorem row9 {w : World} {b : Nat} {x y z u v r s p q : Value} {t : TypeId} (h : w.heap[b]? = some (.cells #[x, y, z, u, v, r, s, p, q] t (0, 0))) :
    (w.cell? ⟨b, 0, none⟩ = some x ∧ w.cell? ⟨b, 1, none⟩ = some y ∧ w.cell? ⟨b, 2, none⟩ = some z ∧ w.cell? ⟨b, 3, none⟩ = some u ∧ w.cell? ⟨b, 4, none⟩ = some v ∧ w.cell? ⟨b, 5, none⟩ = some r ∧ w.cell? ⟨b, 6, none⟩ = some s ∧ w.cell? ⟨b, 7, none⟩ = some p ∧ w.cell? ⟨b, 8, none⟩ = some q) ∧ ∀ i, w.frozen? ⟨b, i, none⟩ = false :=
  ⟨⟨row_cell h 0 _ rfl, row_cell h 1 _ rfl, row_cell h 2 _ rfl, row_cell h 3 _ rfl, row_cell h 4 _ rfl, row_cell h 5 _ rfl, row_cell h 6 _ rfl, row_cell h 7 _ rfl, row_cell h 8 _ rfl⟩, fun i => row_free h i⟩
theorem sound_any {B b S m : Nat} {nm D : ByteArray} (f : Nat × Nat) (T : Nat) (hk : FrOk f) (hn : isNm nm = true) (hD : D.size = 64 * m) (hm : m ≤ 16384) (ht : f.1 < m) (hp : f.2 ≤ 256) (hT : f.1 ≤ T) (hT2 : T ≤ 1000000) (w : World) (hd : DevAt w B b S nm (some D) []) :
    Calls Tryz.prog 69 #[.pointer (some ⟨b, 0, none⟩), frV nm D f, .int .u64 (T : Nat)] w fun e w' => e = .returned (.bool true) ∧ Hid (w.grownBy w' none) := by
  by_cases h : f.1 = 0
  · rw [frV_free h hk]
    exact sound_free b T w
  · rw [frV_held h]
    exact sound_held f.1 f.2 T hn hD hm ht h hp hT hT2 w hd
theorem FrsAt.take {w : World} {nm D : ByteArray} {a : Option Addr} {n c : Nat} {fs : List (Nat × Nat)} (h : FrsAt w nm D (.slice a n c) fs) (i : Nat) (hi : i ≤ fs.length) (c' : Nat) : FrsAt w nm D (.slice a i c') (fs.take i) := by
  obtain ⟨a', cp, h1, h2⟩ := h
  injection h1 with h1
  subst h1
  refine ⟨a, c', by rw [List.length_take, Nat.min_eq_left hi], fun j u hj => ?_⟩
  rw [frsC_take] at hj
  rcases Nat.lt_or_ge j (i * 7) with h3 | h3
  · rw [List.getElem?_take_of_lt h3] at hj
    exact h2 j u hj
  · rw [List.getElem?_eq_none (by rw [List.length_take]; omega)] at hj
    cases hj

set_option maxRecDepth 100000 in
set_option maxHeartbeats 8000000 in
theorem pcheck_any {S m T R : Nat} {nm D : ByteArray} {fs : List (Nat × Nat)} (hG : Good S nm (some D) []) (hD : D.size = 64 * m) (hm : m ≤ 16384) (hF : FsOk m T fs) (hT2 : T ≤ 1000000) (v : Value) (w : World) (hv : PlAt w S nm D fs T R v) :
    Calls Tryz.prog 48 #[v] w fun e w' => e = .returned (.int .i64 0) ∧ Hid (w.grownBy w' none) := by
  obtain ⟨ae, ce, aw, cw, af, cf, hcf, rfl, he, hw, hf⟩ := hv.form
  have HC : Hid (∀ W, w.grownBy W none → Calls Tryz.prog 19 #[.agg #[.int .i64 (S : Nat), .slice ae 1 ce, .slice aw 0 cw, .int .i64 (-1), .bool false]] W fun e w' => e = .returned (.int .i64 0) ∧ Hid (W.grownBy w' none)) := fun W hW => check_disk hG (.slice ae 1 ce) (.slice aw 0 cw) false W (RowAt.of_owns (own_keep he hW (Nat.le_refl _))) (RowAt.of_owns (own_keep hw hW (Nat.le_refl _)))
  have HS : Hid (∀ (W : World) (b : Nat) (f : Nat × Nat), f ∈ fs → DevAt W 0 b S nm (some D) [] → Calls Tryz.prog 69 #[.pointer (some ⟨b, 0, none⟩), frV nm D f, .int .u64 (T : Nat)] W fun e w' => e = .returned (.bool true) ∧ Hid (W.grownBy w' none)) := fun W b f hf hd => sound_any f T (hF.ok f hf) hG.name hD hm (hF.lt f hf) (hF.pins f hf) (hF.le f hf) hT2 W hd
  obtain ⟨af', cf', heq, hc⟩ := hf.form
  injection heq with heq1 _ heq2
  subst heq1
  subst heq2
  have HFr := Lib.hid hc
  have HCF : Hid (∀ (W : World) (i b : Nat) (f : Nat × Nat), w.grownBy W none → fs[i]? = some f → FrRow W nm D b f → Calls Tryz.prog 70 #[.slice af i cf, .func (.func 71) #[] #[.pointer (some ⟨b, 0, none⟩)]] W fun e w' => e = .returned (.bool false) ∧ Hid (W.grownBy w' none)) := fun W i b f hW hi hb => by
    obtain ⟨hil, hfi⟩ := List.getElem?_eq_some_iff.1 hi
    refine contains_chk (.slice af i cf) b W ((hf.grown hW).take i (by omega) cf) (by rw [List.length_take]; have := hF.few; omega) (fun V g hV hg => ?_)
    obtain ⟨j, hj, hge⟩ := List.getElem_of_mem hg
    rw [List.length_take] at hj
    rw [List.getElem_take] at hge
    have hmf : f ∈ fs := List.mem_of_getElem? hi
    have hmg : g ∈ fs := List.mem_of_mem_take hg
    have hap := hF.apart j i g f (by omega) (by rw [List.getElem?_eq_getElem (by omega), hge]) hi
    exact check1_no f g b (hF.ok f hmf) (hF.ok g hmg) hG.name (by rcases hap with h | h | h; exact .inr (.inl h); exact .inl h; exact .inr (.inr (fun e => h e.symm))) V (hb.grown hV)
  have HEw : Hid (w.ownsRow 0 62 2 (.slice ae 1 ce) 1 (exC nm (some D)) ∧ w.ownsRow 0 98 3 (.slice aw 0 cw) 0 []) := ⟨he, hw⟩
  have h1 := hF.one
  have h2 := hF.few
  have Hsome : Hid (∀ i, i < fs.length → ∃ f, fs[i]? = some f ∧ f ∈ fs) := fun i hi => ⟨fs[i], List.getElem?_eq_getElem hi, List.getElem_mem hi⟩
  clear hc hf he hw hF hG hD hv
  obtain ⟨n, hn⟩ : ∃ n, n = fs.length := ⟨_, rfl⟩
  rw [← hn] at HFr h1 h2 Hsome hcf ⊢
  clear hn
  have hni : (n : Int) ≤ 256 := by omega
  have hn1 : (1 : Int) ≤ (n : Int) := by omega
  have q0 := heap_alloc_new w (.cells #[.int .i64 (S : Nat), .slice ae 1 ce, .slice aw 0 cw, .int .i64 (-1), .bool false, .slice af n cf, .int .u64 (T : Nat), .int .u64 (R : Nat), .int .u64 0] 36)
  have g0 := World.grownBy_alloc w (.cells #[.int .i64 (S : Nat), .slice ae 1 ce, .slice aw 0 cw, .int .i64 (-1), .bool false, .slice af n cf, .int .u64 (T : Nat), .int .u64 (R : Nat), .int .u64 0] 36) none
  go_enter Tryz.func48, Tryz.ntmps48
  go_wp2_with fail
  generalize w.alloc (.cells #[.int .i64 (S : Nat), .slice ae 1 ce, .slice aw 0 cw, .int .i64 (-1), .bool false, .slice af n cf, .int .u64 (T : Nat), .int .u64 (R : Nat), .int .u64 0] 36) = w0 at q0 g0 ⊢
  generalize w.heap.size = p at q0 ⊢
  have HP := Lib.hid (fun W (hW : World.grownBy _ W none) => (row9 (row_kept (w' := W) q0 hW (by simp))).1)
  have G0 := Lib.hid g0
  clear q0 g0
  (with_reducible refine (HC.out _ G0.out).mono ?_)
  rintro e w1 ⟨rfl, hg1⟩
  obtain ⟨c0, c1, c2, c3, c4, c5, c6, c7, c8⟩ := HP.out w1 hg1.out
  have e5 : ∀ O, (w1.alloc O).cell? ⟨p, 5, none⟩ = some (.slice af n cf) := fun O => (HP.out _ (grown_trans hg1.out (World.grownBy_alloc w1 O none))).2.2.2.2.2.1
  simp only []
  go_wp2_with fail
  clear c0 c1 c2 c3 c4 c5 c6 c7 c8 e5
  have q1 := heap_alloc_new w1 (.cells #[.int .i64 (S : Nat), .slice ae 1 ce, .slice aw 0 cw, .int .i64 (-1), .bool false] 59)
  have g1 := World.grownBy_alloc w1 (.cells #[.int .i64 (S : Nat), .slice ae 1 ce, .slice aw 0 cw, .int .i64 (-1), .bool false] 59) none
  generalize w1.alloc (.cells #[.int .i64 (S : Nat), .slice ae 1 ce, .slice aw 0 cw, .int .i64 (-1), .bool false] 59) = w2 at q1 g1 ⊢
  generalize w1.heap.size = b at q1 ⊢
  have G2 : Hid (w0.grownBy w2 none) := grown_trans hg1.out g1
  have HDv : Hid (DevAt w2 0 b S nm (some D) []) := ⟨Nat.zero_le _, ae, ce, aw, cw, q1, own_keep HEw.out.1 (grown_trans G0.out G2.out) (Nat.le_refl _), own_keep HEw.out.2 (grown_trans G0.out G2.out) (Nat.le_refl _)⟩
  clear q1 g1
  go_loopw [29] (fun iv wr => ∃ i : Nat, iv = .int .i64 (i : Nat) ∧ i ≤ n ∧ Hid (w2.grownBy wr none)) (fun iv _ => n - (intOf iv).toNat)
  case atStart => exact ⟨0, rfl, Nat.zero_le _, grown_self _ _⟩
  case round =>
    obtain ⟨i, rfl, hi, hg⟩ := hrel
    have hgw : Hid (w.grownBy wr none) := grown_trans G0.out (grown_trans G2.out hg.out)
    by_cases hlt : i < n
    · obtain ⟨g, f, rfl, hf, d0, d1, d2, d3, d4, d5, d6⟩ := HFr.out wr hgw.out i hlt
      have Hf := Lib.hid hf
      have Hmf := Lib.hid (List.mem_of_getElem? hf)
      have hii : (i : Int) < (n : Int) := by omega
      have hii2 : (i : Int) ≤ 256 := by omega
      have hicf : (i : Int) ≤ (cf : Int) := by omega
      have hicn : i ≤ cf := by omega
      have e0 : ∀ O, (wr.alloc O).cell? ⟨p, 6, none⟩ = some (.int .u64 (T : Nat)) := fun O => (HP.out _ (grown_trans (grown_trans G2.out hg.out) (World.grownBy_alloc wr O none))).2.2.2.2.2.2.1
      clear hf
      go_wp2_with fail
      have qf : Hid (FrRow (wr.alloc (.cells (frC nm D f).toArray 106)) nm D wr.heap.size f) := heap_alloc_new wr _
      have gf : Hid (wr.grownBy (wr.alloc (.cells (frC nm D f).toArray 106)) none) := World.grownBy_alloc wr _ none
      have HS1 := Lib.hid (HS.out (wr.alloc (.cells (frC nm D f).toArray 106)) b f Hmf.out (HDv.out.grown (grown_trans hg.out gf.out)))
      unfold frV heldF at HS1
      unfold frC at qf gf HS1
      generalize wr.alloc (.cells (List.toArray [.string (nmO nm f), .int .i64 (f.1 : Nat), .string (datO D f), .int .i64 (f.2 : Nat), .bool false, .int .u64 (f.1 : Nat), .bool false]) 106) = w3 at qf gf HS1 ⊢
      generalize wr.heap.size = bf at qf ⊢
      clear d0 d1 d2 d3 d4 d5 d6 e0
      (with_reducible refine HS1.out.mono ?_)
      rintro e w4 ⟨rfl, hg4⟩
      obtain ⟨c0, c1, c2, c3, c4, c5, c6, c7, c8⟩ := HP.out w4 (grown_trans G2.out (grown_trans hg.out (grown_trans gf.out hg4.out)))
      have HC1 := Lib.hid (HCF.out w4 i bf f (grown_trans hgw.out (grown_trans gf.out hg4.out)) Hf.out (qf.out.grown hg4.out))
      simp only []
      go_wp2_with fail
      (with_reducible refine HC1.out.mono ?_)
      rintro e w5 ⟨rfl, hg5⟩
      clear c0 c1 c2 c3 c4 c5 c6 c7 c8
      simp only []
      go_wp2_with fail
      exact ⟨⟨i + 1, by rw [Int.natCast_add]; rfl, by omega, grown_trans hg.out (grown_trans gf.out (grown_trans hg4.out hg5.out))⟩, by simp [intOf]; omega⟩
    · obtain rfl : i = n := by omega
      go_wp2_with fail
      go_ret
      exact ⟨rfl, hgw⟩
end Go.Proofs.YtihohljhjdmamaaGreat
