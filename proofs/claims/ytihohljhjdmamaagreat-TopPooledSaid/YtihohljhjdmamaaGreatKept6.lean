/- Check: why a disk is not right: a right one. -/
import Derived.Test.YtihohljhjdmamaaGreatKept5
namespace Go.Proofs.YtihohljhjdmamaaGreat
open Go.RowKit
set_option linter.unusedVariables false

set_option maxRecDepth 100000 in
set_option maxHeartbeats 8000000 in
theorem check_disk {S : Nat} {nm : ByteArray} {E : Option ByteArray} {ws : List (Nat × ByteArray)} (hG : Good S nm E ws) (ev wv : Value) (dn : Bool) (w : World) (he : RowAt w ev (exN E) (exC nm E)) (hw : RowAt w wv ws.length (wsC nm ws)) :
    Calls Tryz.prog 19 #[.agg #[.int .i64 (S : Nat), ev, wv, .int .i64 (-1), .bool dn]] w fun e w' => e = .returned (.int .i64 0) ∧ Hid (w.grownBy w' none) := by
  have HX := Lib.hid (fun W (hW : w.grownBy W none) => extents_any hG ev W (he.grown hW))
  have HF := Lib.hid (fun W (hW : w.grownBy W none) (p : Nat × ByteArray) (hp : p ∈ ws) => by
    obtain ⟨D, h1, h2, h3⟩ := hG.wts p hp
    have h4 := he.grown hW
    rw [h1] at h4
    obtain ⟨g, cap, h5, h6, h7⟩ := h4.one
    obtain ⟨m, h8, _, h9⟩ := hG.ext D h1
    have h10 := find_one g cap nm D nm W h6 h7
    rw [fI_of (isA_self nm), isA_self, ← h5] at h10
    have hs := hG.size
    exact (⟨g, cap, m, D, h5, h6, h7, by omega, h3, h10, fun W => sectors_any nm D m h8 (by omega) W⟩ : ∃ g cap m D, ev = .slice (some ⟨g, 0, none⟩) 1 cap ∧ W.cell? ⟨g, 0, none⟩ = some (.string nm) ∧ W.cell? ⟨g, 1, none⟩ = some (.string D) ∧ p.1 < m ∧ p.2.size = 64 ∧ Calls Tryz.prog 17 #[ev, .string nm] W (fun e w' => e = .returned (.tuple #[.int .i64 ((0 : Nat) : Nat), .bool true]) ∧ Hid (W.grownBy w' none)) ∧ ∀ W, Calls Tryz.prog 18 #[.agg #[.string nm, .string D]] W fun e w' => e = .returned (.int .i64 (m : Nat)) ∧ Hid (W.grownBy w' none)))
  obtain ⟨aw, cw, rfl, hcw⟩ := hw
  obtain ⟨N, hN⟩ : ∃ N, N = ws.length := ⟨_, rfl⟩
  have hN1 := hG.few
  rw [← hN] at hN1 ⊢
  have HC : Hid (∀ W, w.grownBy W none → ∀ i, i < N → ∃ (p : Nat × ByteArray) (g : Nat), p ∈ ws ∧ aw = some ⟨g, 0, none⟩ ∧ W.cell? ⟨g, i * 3, none⟩ = some (.string nm) ∧ W.cell? ⟨g, i * 3 + 1, none⟩ = some (.int .i64 (p.1 : Nat)) ∧ W.cell? ⟨g, i * 3 + 2, none⟩ = some (.string p.2)) := fun W hW i hi => by
    have hp : ws[i]? = some (ws[i]'(by omega)) := List.getElem?_eq_getElem (by omega)
    obtain ⟨h1, h2, h3⟩ := wsC_get nm ws i _ hp
    obtain ⟨g, e1, c1⟩ := hcw _ _ h1
    obtain ⟨g2, e2, c2⟩ := hcw _ _ h2
    obtain ⟨g3, e3, c3⟩ := hcw _ _ h3
    rw [e1] at e2 e3
    injection e2 with e2
    injection e2 with e2
    injection e3 with e3
    injection e3 with e3
    subst e2 e3
    exact ⟨_, g, List.getElem_mem _, e1, hW.cell c1 (by simp), hW.cell c2 (by simp), hW.cell c3 (by simp)⟩
  have hS := hG.size
  have q0 := heap_alloc_new w (.cells #[.int .i64 (S : Nat), ev, .slice aw N cw, .int .i64 (-1), .bool dn] 26)
  have g0 := World.grownBy_alloc w (.cells #[.int .i64 (S : Nat), ev, .slice aw N cw, .int .i64 (-1), .bool dn] 26) none
  clear hN he hcw hG
  go_enter Tryz.func19, Tryz.ntmps19
  go_wp2_with fail
  generalize w.alloc (.cells #[.int .i64 (S : Nat), ev, .slice aw N cw, .int .i64 (-1), .bool dn] 26) = W0 at *
  refine (HX.out _ g0).mono ?_
  rintro e w1 ⟨rfl, hg1⟩
  simp only []
  have HR := Lib.hid (fun W (hW : w1.grownBy W none) => row5 (row_kept (row_kept q0 hg1.out (by simp)) hW (by simp)))
  have HG1 := Lib.hid (grown_trans g0 hg1.out)
  clear q0 g0 hg1 HX
  obtain ⟨⟨r0, r1, r2, r3, r4⟩, _⟩ := HR.out w1 (grown_self _ _)
  go_wp2_with fail
  clear r0 r1 r2 r3 r4
  go_loopw [37] (fun iv wr => ∃ i : Nat, iv = .int .i64 (i : Nat) ∧ i ≤ N ∧ Hid (w1.grownBy wr none)) (fun iv _ => N - (intOf iv).toNat)
  case atStart => exact ⟨0, rfl, Nat.zero_le _, grown_self _ _⟩
  case round =>
    obtain ⟨i, rfl, hi, hg⟩ := hrel
    by_cases hlt : i < N
    · obtain ⟨⟨s, d⟩, ga, hp, rfl, a0, a1, a2⟩ := HC.out wr (grown_trans HG1.out hg.out) i hlt
      simp only at a1 a2
      have q1 := heap_alloc_new wr (.cells #[.string nm, .int .i64 (s : Nat), .string d] 98)
      have g1 := World.grownBy_alloc wr (.cells #[.string nm, .int .i64 (s : Nat), .string d] 98) none
      obtain ⟨⟨r0, r1, r2, r3, r4⟩, _⟩ := HR.out wr hg.out
      obtain ⟨⟨t0, t1, t2, t3, t4⟩, _⟩ := HR.out _ (grown_trans hg.out g1)
      obtain ⟨ge, ce, m, D, rfl, b0, b1, hsm, hd, HFi, HSc⟩ := HF.out _ (grown_trans HG1.out (grown_trans hg.out g1)) _ hp
      simp only at hsm hd
      obtain ⟨x0, x1, x2, _, _, _⟩ := row3 q1
      have HFi' := Lib.hid HFi
      have HSc' := Lib.hid HSc
      clear HFi HSc
      have hii : (i : Int) < (N : Int) := by omega
      have Q1 := Lib.hid q1
      have G1 := Lib.hid g1
      have B0 := Lib.hid b0
      have B1 := Lib.hid b1
      clear q1 g1 b0 b1
      go_wp2_with fail
      generalize wr.alloc (.cells #[.string nm, .int .i64 (s : Nat), .string d] 98) = W1 at *
      refine HFi'.out.mono ?_
      rintro e w2 ⟨rfl, hg2⟩
      simp only []
      have HG2 := Lib.hid (grown_trans hg.out (grown_trans G1.out hg2.out))
      have HK := Lib.hid (fun W (hW : w2.grownBy W none) => (⟨(HR.out W (grown_trans HG2.out hW)).1.2.1, row_cell (row_kept (row_kept Q1.out hg2.out (by simp)) hW (by simp)) 1 _ rfl, row_cell (row_kept (row_kept Q1.out hg2.out (by simp)) hW (by simp)) 2 _ rfl, hW.cell (hg2.out.cell B0.out (by simp)) (by simp), hW.cell (hg2.out.cell B1.out (by simp)) (by simp)⟩ : W.cell? ⟨w.heap.size, 1, none⟩ = some (.slice (some ⟨ge, 0, none⟩) 1 ce) ∧ W.cell? ⟨wr.heap.size, 1, none⟩ = some (.int .i64 (s : Nat)) ∧ W.cell? ⟨wr.heap.size, 2, none⟩ = some (.string d) ∧ W.cell? ⟨ge, 0, none⟩ = some (.string nm) ∧ W.cell? ⟨ge, 1, none⟩ = some (.string D)))
      clear r0 r1 r2 r3 r4 t0 t1 t2 t3 t4 x0 x1 x2 a0 a1 a2 hg2 Q1 G1 B0 B1 HFi' hg
      obtain ⟨k0, k1, k2, k3, k4⟩ := HK.out w2 (grown_self _ _)
      have hsi : 0 ≤ (s : Int) := by omega
      have hs0 : decide ((s : Int) < 0) = false := by simp
      have hsm2 : decide (m ≤ s) = false := by simp; omega
      have hd2 : (((d.size : Nat) : Int) != 64) = false := by rw [hd]; rfl
      clear hd
      go_wp2_with fail
      go_region_held3 (fun w' => w'.cell? ⟨w.heap.size, 1, none⟩ = some (.slice (some ⟨ge, 0, none⟩) 1 ce) ∧ w'.cell? ⟨wr.heap.size, 1, none⟩ = some (.int .i64 (s : Nat)) ∧ w'.cell? ⟨wr.heap.size, 2, none⟩ = some (.string d) ∧ w'.cell? ⟨ge, 0, none⟩ = some (.string nm) ∧ w'.cell? ⟨ge, 1, none⟩ = some (.string D)) (go_keep) ((go_at_call 18; refine (HSc'.out _).mono ?_; rintro e w3 ⟨rfl, hg3⟩; have gg : w2.grownBy w3 none := (by first | exact hg3.out | exact grown_trans (grown_drew w2 none) hg3.out); obtain ⟨l0, l1, l2, l3, l4⟩ := HK.out w3 gg; clear hg3))
      have HG3 := Lib.hid (grown_trans HG2.out gg)
      clear k0 k1 k2 k3 k4 l0 l1 l2 l3 l4 gg
      go_wp2_with fail
      exact ⟨⟨i + 1, by rw [Int.natCast_add]; rfl, by omega, HG3⟩, by simp [intOf] <;> omega⟩
    · obtain rfl : i = N := by omega
      go_wp2_with fail
      go_ret
      exact ⟨rfl, grown_trans HG1.out hg.out⟩

/-- a disk as a value, in a world -/
def DskAt (w : World) (S : Nat) (nm : ByteArray) (E : Option ByteArray) (ws : List (Nat × ByteArray)) (v : Value) : Prop := ∃ ev wv, v = .agg #[.int .i64 (S : Nat), ev, wv, .int .i64 (-1), .bool false] ∧ RowAt w ev (exN E) (exC nm E) ∧ RowAt w wv ws.length (wsC nm ws)
theorem DskAt.grown {w w' : World} {S : Nat} {nm : ByteArray} {E : Option ByteArray} {ws : List (Nat × ByteArray)} {v : Value} (h : DskAt w S nm E ws v) (hg : w.grownBy w' none) : DskAt w' S nm E ws v := by
  obtain ⟨ev, wv, h1, h2, h3⟩ := h
  exact ⟨ev, wv, h1, h2.grown hg, h3.grown hg⟩
/-- a disk at work: its block, and what is its own -/
structure DevAt (w : World) (B b : Nat) (S : Nat) (nm : ByteArray) (E : Option ByteArray) (ws : List (Nat × ByteArray)) : Prop where
  low : B ≤ b
  at_ : ∃ ae ce aw cw, w.heap[b]? = some (.cells #[.int .i64 (S : Nat), .slice ae (exN E) ce, .slice aw ws.length cw, .int .i64 (-1), .bool false] 59 (0, 0)) ∧
    w.ownsRow B 62 2 (.slice ae (exN E) ce) (exN E) (exC nm E) ∧ w.ownsRow B 98 3 (.slice aw ws.length cw) ws.length (wsC nm ws)
theorem dev_size : (Tryz.prog.info? 59).map (·.size) = some 5 := by kernel_rfl
set_option maxRecDepth 100000 in
set_option maxHeartbeats 4000000 in
theorem open_disk {S : Nat} {nm : ByteArray} {E : Option ByteArray} {ws : List (Nat × ByteArray)} (hG : Good S nm E ws) (v : Value) (w : World) (hv : DskAt w S nm E ws v) :
    Calls Tryz.prog 16 #[v] w fun e w' => ∃ b, e = .returned (.tuple #[.pointer (some ⟨b, 0, none⟩), .int .i64 0]) ∧ DevAt w' w.heap.size b S nm E ws ∧ Hid (w.grownBy w' none) := by
  obtain ⟨ev, wv, rfl, he, hw⟩ := hv
  have HC := Lib.hid (fun W (hW : w.grownBy W none) => check_disk hG ev wv false W (he.grown hW) (hw.grown hW))
  have HO := Lib.hid (fun W (hW : w.grownBy W none) => own_any (S : Nat) (-1) false ev wv (exN E) ws.length (exC nm E) (wsC nm ws) W (he.grown hW) (hw.grown hW) (exC_length nm E) (wsC_length nm ws) (exC_one nm E) (wsC_one nm ws) (exN_le E) hG.few)
  have q0 := heap_alloc_new w (.cells #[.int .i64 (S : Nat), ev, wv, .int .i64 (-1), .bool false] 26)
  have g0 := World.grownBy_alloc w (.cells #[.int .i64 (S : Nat), ev, wv, .int .i64 (-1), .bool false] 26) none
  clear he hw hG
  go_enter Tryz.func16, Tryz.ntmps16
  go_wp2_with fail
  generalize w.alloc (.cells #[.int .i64 (S : Nat), ev, wv, .int .i64 (-1), .bool false] 26) = W0 at *
  refine (HC.out _ g0).mono ?_
  rintro e w1 ⟨rfl, hg1⟩
  have HR := Lib.hid (fun W (hW : w1.grownBy W none) => row5 (row_kept (row_kept q0 hg1.out (by simp)) hW (by simp)))
  have HG1 := Lib.hid (grown_trans g0 hg1.out)
  clear q0 g0 hg1 HC
  simp only []
  obtain ⟨⟨r0, r1, r2, r3, r4⟩, _⟩ := HR.out w1 (grown_self _ _)
  go_wp2_with fail
  refine (HO.out _ HG1.out).mono ?_
  rintro e w2 ⟨ev', wv', rfl, hoe, how, hg2⟩
  simp only []
  obtain ⟨⟨t0, t1, t2, t3, t4⟩, _⟩ := HR.out w2 hg2.out
  clear r0 r1 r2 r3 r4
  obtain ⟨ae, ce, rfl, _⟩ := RowAt.of_owns hoe
  obtain ⟨aw, cw, rfl, _⟩ := RowAt.of_owns how
  have hq := heap_alloc_new w2 (.cells #[.int .i64 (S : Nat), .slice ae (exN E) ce, .slice aw ws.length cw, .int .i64 (-1), .bool false] 59)
  have hgq := World.grownBy_alloc w2 (.cells #[.int .i64 (S : Nat), .slice ae (exN E) ce, .slice aw ws.length cw, .int .i64 (-1), .bool false] 59) none
  have HD : Hid (DevAt (w2.alloc (.cells #[.int .i64 (S : Nat), .slice ae (exN E) ce, .slice aw ws.length cw, .int .i64 (-1), .bool false] 59)) w.heap.size w2.heap.size S nm E ws) :=
    ⟨Nat.le_trans HG1.out.size hg2.out.size, ae, ce, aw, cw, hq, own_keep hoe hgq HG1.out.size, own_keep how hgq HG1.out.size⟩
  have HG2 := Lib.hid (grown_trans HG1.out (grown_trans hg2.out hgq))
  clear hoe how hq hgq hg2
  have t4' := (World.grownBy_alloc w2 (.cells #[.int .i64 (S : Nat), .slice ae (exN E) ce, .slice aw ws.length cw, .int .i64 (-1), .bool false] 59) none).cell t4 (by simp)
  go_wp2_with fail
  go_ret2
  exact ⟨_, rfl, HD.out, HG2⟩
end Go.Proofs.YtihohljhjdmamaaGreat
