/- A crash: some is done. -/
import Derived.Test.YtihohljhjdmamaaKept12
namespace Go.Proofs.Ytihohljhjdmamaa
open Go.RowKit
set_option linter.unusedVariables false

/-- a slice of Booleans -/
def BoolsAt (w : World) (a : Option Addr) (n : Nat) (K : Nat → Bool) : Prop := ∀ i, i < n → ∃ x, a = some x ∧ w.cell? (x.add i) = some (.bool (K i))
theorem BoolsAt.grown {w w' : World} {a : Option Addr} {n : Nat} {K : Nat → Bool} (h : BoolsAt w a n K) (hg : w.grownBy w' none) : BoolsAt w' a n K := fun i hi => by
  obtain ⟨x, h1, h2⟩ := h i hi
  exact ⟨x, h1, hg.cell h2 (by simp)⟩
/-- what is kept -/
def kp (n : Nat) (K : Nat → Bool) (k : Nat) : Bool := decide (k < n) && K k
set_option maxRecDepth 100000 in
theorem crash1_any (kb : Nat) (a : Option Addr) (n c : Nat) (K : Nat → Bool) (k : Nat) (hk : k ≤ 1000000) (hn : n ≤ maxLen) (W : World) (hc : W.cell? ⟨kb, 0, none⟩ = some (.slice a n c)) (hb : BoolsAt W a n K) :
    Calls Try.prog 27 #[.int .i64 (k : Nat), .pointer (some ⟨kb, 0, none⟩)] W fun e w' => e = .returned (.bool (kp n K k)) ∧ w' = W := by
  unfold maxLen at hn
  by_cases h : k < n
  · obtain ⟨x, rfl, hx⟩ := hb k h
    have hki : (k : Int) < (n : Int) := by omega
    have e : kp n K k = K k := by unfold kp; simp [h]
    rw [e]
    clear e hb
    go_enter Try.func27, Try.ntmps27
    go_wp2_with fail
    go_ret
    exact ⟨rfl, rfl⟩
  · have hki : ¬ (k : Int) < (n : Int) := by omega
    have e : kp n K k = false := by unfold kp; simp [h]
    rw [e]
    clear e hb
    go_enter Try.func27, Try.ntmps27
    go_wp2_with fail
    go_ret
    exact ⟨rfl, rfl⟩
theorem crash_put {B b S : Nat} {nm : ByteArray} {E : Option ByteArray} {ws : List (Nat × ByteArray)} {w : World} (h : DevAt w B b S nm E ws) (hBw : B ≤ w.heap.size) :
    DevAt ((w.setCell ⟨b, 4, none⟩ (.bool false)).setCell ⟨b, 3, none⟩ (.int .i64 (-1))) B b S nm E ws ∧ Below B w ((w.setCell ⟨b, 4, none⟩ (.bool false)).setCell ⟨b, 3, none⟩ (.int .i64 (-1))) := by
  obtain ⟨ae, ce, aw, cw, h1, h2, h3⟩ := h.at_
  have g := grown_trans (grown_setCell w ⟨b, 4, none⟩ (.bool false)) (grown_setCell (w.setCell ⟨b, 4, none⟩ (.bool false)) ⟨b, 3, none⟩ (.int .i64 (-1)))
  have r1 := heap_setCell_same w b 4 _ _ (.bool false) h1
  have r2 := heap_setCell_same _ b 3 _ _ (.int .i64 (-1)) r1
  refine ⟨⟨h.low, ae, ce, aw, cw, r2, World.ownsRow.kept h2 g (.inr (own_ne_row h2 h1 (by decide))), World.ownsRow.kept h3 g (.inr (own_ne_row h3 h1 (by decide)))⟩, (Below.refl B w).grown g hBw (fun k e => by injection e with e; simp only at e; have := h.low; omega)⟩
set_option maxRecDepth 100000 in
set_option maxHeartbeats 2000000 in
theorem crash_disk {S : Nat} {nm D : ByteArray} {ws : List (Nat × ByteArray)} (hG : Good S nm (some D) ws) (ak : Option Addr) (lk ck : Nat) (K : Nat → Bool) (hlk : lk ≤ maxLen) (v : Value) (w : World) (hv : DskAt w S nm (some D) ws v) (hB : BoolsAt w ak lk K) :
    Calls Try.prog 10 #[v, .slice ak lk ck] w fun e w' => ∃ (v' : Value), e = .returned (.tuple #[v', .int .i64 0]) ∧ DskAt w' S nm (some (dn (kp lk K) ws D)) [] v' ∧ Hid (w.grownBy w' none) := by
  obtain ⟨ev, wv, rfl, he, hw⟩ := hv
  have HC := Lib.hid (fun W (hW : w.grownBy W none) => check_disk hG ev wv false W (he.grown hW) (hw.grown hW))
  have HO := Lib.hid (fun W (hW : w.grownBy W none) => own_any (S : Nat) (-1) false ev wv (exN (some D)) ws.length (exC nm (some D)) (wsC nm ws) W (he.grown hW) (hw.grown hW) (exC_length nm (some D)) (wsC_length nm ws) (exC_one nm (some D)) (wsC_one nm ws) (exN_le (some D)) hG.few)
  have HS := Lib.hid disk_size
  have HB := Lib.hid hB
  have g0 := World.grownBy_alloc w (.cells #[.int .i64 (S : Nat), ev, wv, .int .i64 (-1), .bool false] 31) none
  have q0 := heap_alloc_new w (.cells #[.int .i64 (S : Nat), ev, wv, .int .i64 (-1), .bool false] 31)
  have gk := World.grownBy_alloc (w.alloc (.cells #[.int .i64 (S : Nat), ev, wv, .int .i64 (-1), .bool false] 31)) (.cells #[.slice ak lk ck] 24) none
  have qk := heap_alloc_new (w.alloc (.cells #[.int .i64 (S : Nat), ev, wv, .int .i64 (-1), .bool false] 31)) (.cells #[.slice ak lk ck] 24)
  have g1 := World.grownBy_alloc ((w.alloc (.cells #[.int .i64 (S : Nat), ev, wv, .int .i64 (-1), .bool false] 31)).alloc (.cells #[.slice ak lk ck] 24)) (.cells #[.int .i64 0, .slice none 0 0, .slice none 0 0, .int .i64 0, .bool false] 31) none
  have q1 := heap_alloc_new ((w.alloc (.cells #[.int .i64 (S : Nat), ev, wv, .int .i64 (-1), .bool false] 31)).alloc (.cells #[.slice ak lk ck] 24)) (.cells #[.int .i64 0, .slice none 0 0, .slice none 0 0, .int .i64 0, .bool false] 31)
  clear he hw hB
  go_enter Try.func10, Try.ntmps10
  go_upto_region 1 with (fail)
  simp only [World.size_alloc] at q1 qk ⊢
  have q0' := row_kept (row_kept q0 gk (by simp)) g1 (by simp)
  have qk' := row_kept qk g1 (by simp)
  have hG0 := grown_trans g0 (grown_trans gk g1)
  generalize ((w.alloc (.cells #[.int .i64 (S : Nat), ev, wv, .int .i64 (-1), .bool false] 31)).alloc (.cells #[.slice ak lk ck] 24)).alloc (.cells #[.int .i64 0, .slice none 0 0, .slice none 0 0, .int .i64 0, .bool false] 31) = W0 at *
  obtain ⟨⟨r0, r1, r2, r3, r4⟩, _⟩ := row5 q0'
  have Q1 := Lib.hid q1
  have Qk := Lib.hid qk'
  have Q0 := Lib.hid q0'
  have HG0 := Lib.hid hG0
  clear q0 q0' q1 qk qk' g0 gk g1 hG0
  go_wp2_with fail
  refine (HC.out W0 HG0.out).mono ?_
  rintro e w1 ⟨rfl, hg1⟩
  obtain ⟨⟨r0, r1, r2, r3, r4⟩, _⟩ := row5 (row_kept Q0.out hg1.out (by simp))
  simp only []
  go_wp2_with fail
  refine (HO.out w1 (grown_trans HG0.out hg1.out)).mono ?_
  rintro e w2 ⟨ev', wv', rfl, hoe, how, hg2⟩
  clear r0 r1 r2 r3 r4
  simp only []
  obtain ⟨ae, ce, rfl, _⟩ := RowAt.of_owns hoe
  obtain ⟨aw, cw, rfl, _⟩ := RowAt.of_owns how
  have hq := heap_alloc_new w2 (.cells #[.int .i64 (S : Nat), .slice ae (exN (some D)) ce, .slice aw ws.length cw, .int .i64 (-1), .bool false] 67)
  have hgq := World.grownBy_alloc w2 (.cells #[.int .i64 (S : Nat), .slice ae (exN (some D)) ce, .slice aw ws.length cw, .int .i64 (-1), .bool false] 67) none
  have hD : DevAt (w2.alloc (.cells #[.int .i64 (S : Nat), .slice ae (exN (some D)) ce, .slice aw ws.length cw, .int .i64 (-1), .bool false] 67)) W0.heap.size w2.heap.size S nm (some D) ws :=
    ⟨Nat.le_trans hg1.out.size hg2.out.size, ae, ce, aw, cw, hq, own_keep hoe hgq hg1.out.size, own_keep how hgq hg1.out.size⟩
  have hg02 := grown_trans hg1.out (grown_trans hg2.out hgq)
  go_wp2_with fail
  generalize w2.alloc (.cells #[.int .i64 (S : Nat), .slice ae (exN (some D)) ce, .slice aw ws.length cw, .int .i64 (-1), .bool false] 67) = w3 at *
  have hst := settle_crash (kp lk K) (w.heap.size + 1) hG w3 hD hg02.size (fun W hW k hk => crash1_any (w.heap.size + 1) ak lk ck K k (by have := hG.few; omega) hlk W (row_cell (row_kept (row_kept Qk.out hg02 (by simp)) hW (by simp)) 0 _ rfl) (HB.out.grown (grown_trans HG0.out (grown_trans hg02 hW))))
  refine hst.mono ?_
  rintro e w4 ⟨rfl, hD4, hb4⟩
  simp only []
  obtain ⟨hD5, hb5⟩ := crash_put hD4 (Nat.le_trans hg02.size hb4.size)
  obtain ⟨ae4, ce4, aw4, cw4, hr4, _⟩ := hD4.at_
  obtain ⟨⟨x0, x1, x2, x3, x4⟩, f0, f1, f2, f3, f4⟩ := row5 hr4
  have HD5 := Lib.hid hD5
  have Hb5 := Lib.hid (hb4.trans hb5)
  have Hg02 := Lib.hid hg02
  clear hst hq hgq hD hg02 hD4 hb4 hD5 hb5 hr4 hoe how hg1 hg2
  go_wp2_with fail
  generalize ((w4.setCell ⟨w2.heap.size, 4, none⟩ (.bool false)).setCell ⟨w2.heap.size, 3, none⟩ (.int .i64 (-1))) = w5 at *
  refine (done_any _ _ HD5.out).mono ?_
  rintro e w6 ⟨v6, rfl, hv6, hg6⟩
  obtain ⟨ev3, wv3, rfl, he3, hw3⟩ := hv6
  obtain ⟨a3, c3, rfl, he3⟩ := he3
  obtain ⟨a4, c4, rfl, hw3⟩ := hw3
  obtain ⟨r3, hgf⟩ := wrap_fin HG0.out Hg02.out Hb5.out hg6.out Q1.out
  obtain ⟨⟨t0, t1, t2, t3, t4⟩, f0, f1, f2, f3, f4⟩ := row5 r3
  have fq := Lib.hid (row_put5 (.int .i64 (S : Nat)) (.slice a3 (exN (some (dn (kp lk K) ws D))) c3) (.slice a4 ([] : List (Nat × ByteArray)).length c4) (.int .i64 (-1)) (.bool false) r3)
  have HGf := Lib.hid (grown_own hgf fq.out.2 (by omega))
  have HE := Lib.hid (RowAt.put (n := exN (some (dn (kp lk K) ws D))) (R := w.heap.size + 1 + 1) ⟨a3, c3, rfl, he3⟩ (exC_head nm _) t0 fq.out.2)
  have HW := Lib.hid (RowAt.put (n := ([] : List (Nat × ByteArray)).length) (R := w.heap.size + 1 + 1) ⟨a4, c4, rfl, hw3⟩ (wsC_head nm _) t0 fq.out.2)
  clear r3 hgf he3 hw3 hg6 HO HC x0 x1 x2 x3 x4
  simp only []
  go_wp2_with fail
  refine bodyPost_ret (results_row_tmp (fn := Try.f10) (p := 4) (q := 5) (ty := 31) rfl _ _ (w.heap.size + 1 + 1) 31 _ _ _ rfl fq.out.1 Try.underlying31 rfl HS.out) rfl ?_
  exact ⟨_, rfl, ⟨_, _, rfl, HE.out, HW.out⟩, HGf⟩
end Go.Proofs.Ytihohljhjdmamaa
