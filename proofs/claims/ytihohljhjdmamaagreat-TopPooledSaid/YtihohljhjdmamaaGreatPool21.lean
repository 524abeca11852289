/- TopPooled's own walk. -/
import Derived.Test.YtihohljhjdmamaaGreatPool20
import Derived.Test.YtihohljhjdmamaaGreatBegins
namespace Go.Proofs.YtihohljhjdmamaaGreat
open Go.RowKit
set_option linter.unusedVariables false

theorem nmA_is : isNm (ByteArray.mk #[97]) = true := by
  unfold isNm
  rw [ByteArray.toList_eq]
  decide

/-- a box that holds a pool -/
def PBox (w : World) (S F P : Nat) (nm D : ByteArray) (fs : List (Nat × Nat)) (T R : Nat) : Prop := ∃ ae ce aw cw af cf, w.heap[P]? = some (.cells #[.int .i64 (S : Nat), .slice ae 1 ce, .slice aw 0 cw, .int .i64 (-1), .bool false, .slice af F cf, .int .u64 (T : Nat), .int .u64 (R : Nat), .int .u64 0] 36 (0, 0)) ∧ PlAt w S nm D fs T R (.agg #[.int .i64 (S : Nat), .slice ae 1 ce, .slice aw 0 cw, .int .i64 (-1), .bool false, .slice af F cf, .int .u64 (T : Nat), .int .u64 (R : Nat), .int .u64 0])
theorem PBox.grow {w w' : World} {S F P T R : Nat} {nm D : ByteArray} {fs : List (Nat × Nat)} (h : PBox w S F P nm D fs T R) (hg : w.grownBy w' none) : PBox w' S F P nm D fs T R := by
  obtain ⟨ae, ce, aw, cw, af, cf, h1, h2⟩ := h
  exact ⟨ae, ce, aw, cw, af, cf, row_kept h1 hg (by simp), h2.grown hg⟩
theorem PlAt.parts {w : World} {S F T R : Nat} {nm D : ByteArray} {fs : List (Nat × Nat)} {ae aw af : Option Addr} {ce cw cf : Nat} (h : PlAt w S nm D fs T R (.agg #[.int .i64 (S : Nat), .slice ae 1 ce, .slice aw 0 cw, .int .i64 (-1), .bool false, .slice af F cf, .int .u64 (T : Nat), .int .u64 (R : Nat), .int .u64 0])) (hF : fs.length = F) :
    fs.length ≤ cf ∧ w.ownsRow 0 62 2 (.slice ae 1 ce) 1 (exC nm (some D)) ∧ w.ownsRow 0 98 3 (.slice aw 0 cw) 0 [] ∧ FrsAt w nm D (.slice af fs.length cf) fs := by
  obtain ⟨ae', ce', aw', cw', af', cf', h1, heq, h2, h3, h4⟩ := h.form
  subst hF
  simp at heq
  obtain ⟨⟨e1, e2⟩, ⟨e3, e4⟩, e5, e6⟩ := heq
  subst e1 e2 e3 e4 e5 e6
  exact ⟨h1, h2, h3, h4⟩
theorem pbox_lt {w : World} {S F P T R : Nat} {nm D : ByteArray} {fs : List (Nat × Nat)} (h : PBox w S F P nm D fs T R) : P < w.heap.size := by
  obtain ⟨ae, ce, aw, cw, af, cf, h1, h2⟩ := h
  exact row_lt h1
theorem ext_step (p : ByteArray) (k : Nat) : p.extract 0 (64 * k) ++ sl p k = p.extract 0 (64 * (k + 1)) := by
  apply ByteArray.ext
  unfold sl
  rw [ByteArray.data_append, ByteArray.data_extract, ByteArray.data_extract, ByteArray.data_extract]
  rw [Array.extract_append_extract]
  congr 1 <;> omega

set_option maxRecDepth 100000 in
set_option maxHeartbeats 8000000 in
theorem topPooled_walk {F n N S : Nat} (s : ByteArray) (hs : s.size ≤ 3000) (hF1 : 1 ≤ F) (hF2 : F ≤ 256) (hn : n = (s.size + 63) / 64) (hN : N = n + 1) (hS : S = 200) (w : World) :
    Calls Tryz.prog 3 #[.string s, .int .i64 (F : Nat)] w fun e w' => e = .returned (.bool true) ∧ Hid (Below w.heap.size w w') := by
  have hn47 : n ≤ 47 := by omega
  have hn64 : s.size ≤ 64 * n := by omega
  have HBe := Lib.hid (fun W => begins_any W)
  have HMk := (show Hid (∀ W, Calls Tryz.prog 5 #[.int .i64 200] W fun e w' => ∃ v, e = .returned (.tuple #[v, .int .i64 0]) ∧ DskAt w' S (ByteArray.mk #[97]) none [] v ∧ Hid (W.grownBy w' none)) from fun W => by subst hS; exact make_any 200 (ByteArray.mk #[97]) (by omega) W)
  have HWt := Lib.hid (fun (v : Value) (W : World) (h : DskAt W S (ByteArray.mk #[97]) none [] v) => wtext_any (n := n) (N := N) s nmA_is (by omega) (by omega) hn hN (by omega) (by omega) v W h)
  have hgood : ∀ D : ByteArray, D.size = 64 * N → Good S (ByteArray.mk #[97]) (some D) [] := fun D hD => ⟨by omega, nmA_is, (fun D' e => by injection e with e; subst e; exact ⟨N, hD, by omega, by omega⟩), by simp, (fun p hp => by simp at hp)⟩
  have HSe := Lib.hid (fun (D : ByteArray) (hD : D.size = 64 * N) (v : Value) (W : World) (h : DskAt W S (ByteArray.mk #[97]) (some D) [] v) => dsec_any (hgood D hD) hD (by omega) v W h)
  have HPm := Lib.hid (fun (D : ByteArray) (hD : D.size = 64 * N) (v : Value) (W : World) (h : DskAt W S (ByteArray.mk #[97]) (some D) [] v) => pmake_any (hgood D hD) hF1 hF2 v W h)
  have hN1 : n < N := by omega
  have hN2 : N ≤ n + 1 := by omega
  have HNN := Lib.hid hN
  have Hgood := Lib.hid hgood
  have hs1 : ¬ (3000 : Int) < (s.size : Nat) := by omega
  have hf1 : ¬ (F : Int) < 1 := by omega
  have hf2 : ¬ (256 : Int) < (F : Int) := by omega
  clear hn hN hgood hS
  go_enter Tryz.func3, Tryz.ntmps3
  go_wp2_with fail
  (with_reducible refine (HBe.out _).mono ?_)
  rintro e w1 ⟨rfl, hb1⟩
  have Hb1 := Lib.hid hb1
  clear hb1
  simp only []
  go_wp2_with fail
  (with_reducible refine (HMk.out _).mono ?_)
  rintro e w2 ⟨v, rfl, hd2, hg2⟩
  have Hb2 : Hid (Below w.heap.size w w2) := Hb1.out.trans (bel_grown hg2.out Hb1.out.size)
  obtain ⟨ev, wv, rfl, he, hw⟩ := hd2
  obtain ⟨ae, ce, ree, _⟩ := id he
  obtain ⟨aw, cw, rww, _⟩ := id hw
  have ree : ev = .slice ae 0 ce := ree
  have rww : wv = .slice aw 0 cw := rww
  subst ree rww
  have H2 := Lib.hid (And.intro he hw)
  clear he hw hg2 Hb1
  simp only []
  go_upto_region 6 with (fail)
  have q3 := heap_alloc_new w2 (.cells #[.int .i64 (S : Nat), .slice ae 0 ce, .slice aw 0 cw, .int .i64 (-1), .bool false] 26)
  have g3 := World.grownBy_alloc w2 (.cells #[.int .i64 (S : Nat), .slice ae 0 ce, .slice aw 0 cw, .int .i64 (-1), .bool false] 26) none
  have d3 : Hid (DskAt (w2.alloc (.cells #[.int .i64 (S : Nat), .slice ae 0 ce, .slice aw 0 cw, .int .i64 (-1), .bool false] 26)) S (ByteArray.mk #[97]) none [] (.agg #[.int .i64 (S : Nat), .slice ae 0 ce, .slice aw 0 cw, .int .i64 (-1), .bool false])) := DskAt.grown ⟨_, _, rfl, H2.out.1, H2.out.2⟩ g3
  have Hb3 := Lib.hid (Hb2.out.trans (bel_grown g3 Hb2.out.size))
  have hPd : Hid (w.heap.size ≤ w2.heap.size) := Hb2.out.size
  generalize w2.alloc (.cells #[.int .i64 (S : Nat), .slice ae 0 ce, .slice aw 0 cw, .int .i64 (-1), .bool false] 26) = w3 at q3 d3 Hb3 ⊢
  generalize w2.heap.size = P at q3 hPd ⊢
  clear g3 H2 Hb2
  obtain ⟨⟨c0, c1, c2, c3, c4⟩, _⟩ := row5 q3
  have Q3 := Lib.hid q3
  clear q3
  go_wp2_with fail
  (with_reducible refine (HWt.out _ w3 d3.out).mono ?_)
  rintro e w4 ⟨v, D, p, rfl, hD, hp, hps, hsec, hd4, hg4⟩
  have hX := Lib.hid (And.intro hD (And.intro hp (And.intro hps hsec)))
  have Hrow4 := Lib.hid (row_kept Q3.out hg4.out (by simp))
  have Hb4 : Hid (Below w.heap.size w w4) := Hb3.out.trans (bel_grown hg4.out Hb3.out.size)
  obtain ⟨ev, wv, rfl, he, hw⟩ := hd4.out
  obtain ⟨ae, ce, ree, _⟩ := id he
  obtain ⟨aw, cw, rww, _⟩ := id hw
  have ree : ev = .slice ae 1 ce := ree
  have rww : wv = .slice aw 0 cw := rww
  subst ree rww
  have H4 := Lib.hid (And.intro he hw)
  clear he hw hg4 hd4 c0 c1 c2 c3 c4 hD hp hps hsec d3 Q3 Hb3
  obtain ⟨⟨c0, c1, c2, c3, c4⟩, f0, f1, f2, f3, f4⟩ := row5 Hrow4.out
  have C0 := Lib.hid c0
  simp only []
  go_upto_region 7 with (fail)
  clear c0 c1 c2 c3 c4 f0 f1 f2 f3 f4
  obtain ⟨q5, hg5⟩ := row_put5 (.int .i64 (S : Nat)) (.slice ae 1 ce) (.slice aw 0 cw) (.int .i64 (-1)) (.bool false) Hrow4.out
  have k1 : RowAt _ (.slice ae 1 ce) (exN (some D)) (exC (ByteArray.mk #[97]) (some D)) := H4.out.1.put (exC_head (ByteArray.mk #[97]) (some D)) C0.out hg5
  have k2 : RowAt _ (.slice aw 0 cw) 0 (wsC (ByteArray.mk #[97]) []) := H4.out.2.put (wsC_head (ByteArray.mk #[97]) []) C0.out hg5
  have Hb5 := Lib.hid (Hb4.out.trans (below_grown hg5 hPd.out Hb4.out.size))
  generalize (((((w4.setCell ⟨P, 0, none⟩ (.int .i64 (S : Nat))).setCell ⟨P, 1, none⟩ (.slice ae 1 ce)).setCell ⟨P, 2, none⟩ (.slice aw 0 cw)).setCell ⟨P, 3, none⟩ (.int .i64 (-1))).setCell ⟨P, 4, none⟩ (.bool false)) = w5 at q5 k1 k2 Hb5 ⊢
  have d5 : Hid (DskAt w5 S (ByteArray.mk #[97]) (some D) [] (.agg #[.int .i64 (S : Nat), .slice ae 1 ce, .slice aw 0 cw, .int .i64 (-1), .bool false])) := ⟨_, _, rfl, k1, k2⟩
  clear k1 k2 hg5 Hb4 H4
  obtain ⟨⟨c0, c1, c2, c3, c4⟩, _⟩ := row5 q5
  have Q5 := Lib.hid q5
  clear q5
  go_wp2_with fail
  (with_reducible refine (HSe.out D hX.out.1 _ w5 d5.out).mono ?_)
  rintro e w6 ⟨rfl, hg6⟩
  clear c0 c1 c2 c3 c4
  obtain ⟨⟨c0, c1, c2, c3, c4⟩, _⟩ := row5 (row_kept Q5.out hg6.out (by simp))
  have d6 := Lib.hid (d5.out.grown hg6.out)
  have Hb6 := Lib.hid (Hb5.out.trans (bel_grown hg6.out Hb5.out.size))
  clear d5 Hb5 hg6
  simp only []
  go_wp2_with fail
  (with_reducible refine (HPm.out D hX.out.1 _ w6 d6.out).mono ?_)
  rintro e w7 ⟨v, rfl, hpl, hg7⟩
  have Hb7 := Lib.hid (Hb6.out.trans (bel_grown hg7.out Hb6.out.size))
  obtain ⟨ae', ce', aw', cw', af, cf, hcf, rfl, h7e, h7w, h7f⟩ := hpl.out.form
  have Hpl := Lib.hid hpl.out
  clear hpl d6 Hb6 hg7 c0 c1 c2 c3 c4 hcf h7e h7w h7f
  rw [List.length_replicate] at Hpl ⊢
  simp only []
  go_upto_region 12 with (fail)
  have q8 := heap_alloc_new w7 (.cells #[.int .i64 (S : Nat), .slice ae' 1 ce', .slice aw' 0 cw', .int .i64 (-1), .bool false, .slice af F cf, .int .u64 0, .int .u64 0, .int .u64 0] 36)
  have g8 := World.grownBy_alloc w7 (.cells #[.int .i64 (S : Nat), .slice ae' 1 ce', .slice aw' 0 cw', .int .i64 (-1), .bool false, .slice af F cf, .int .u64 0, .int .u64 0, .int .u64 0] 36) none
  have Hb8 := Lib.hid (Hb7.out.trans (bel_grown g8 Hb7.out.size))
  have HPq : Hid (w.heap.size ≤ w7.heap.size) := Hb7.out.size
  have HX8 : Hid (PBox (w7.alloc (.cells #[.int .i64 (S : Nat), .slice ae' 1 ce', .slice aw' 0 cw', .int .i64 (-1), .bool false, .slice af F cf, .int .u64 0, .int .u64 0, .int .u64 0] 36)) S F w7.heap.size (ByteArray.mk #[97]) D (List.replicate F (0, 0)) 0 0) := ⟨_, _, _, _, _, _, q8, Hpl.out.grown g8⟩
  generalize w7.alloc (.cells #[.int .i64 (S : Nat), .slice ae' 1 ce', .slice aw' 0 cw', .int .i64 (-1), .bool false, .slice af F cf, .int .u64 0, .int .u64 0, .int .u64 0] 36) = w8 at Hb8 HX8 ⊢
  generalize w7.heap.size = Q at HPq HX8 ⊢
  clear q8 g8 Hpl Hb7
  have hp := hX.out.2.1
  have hps := Lib.hid hX.out.2.2.1
  have Hin : Hid (∀ k, k < n → sec D (k + 1) = sl p k) := hX.out.2.2.2
  go_wp2_with fail
  go_loopw [12, 13] (fun gv iv wr => ∃ (i k : Nat) (g : ByteArray), gv = .string g ∧ iv = .int .i64 (i : Nat) ∧ Hid (i = k + 1) ∧ k ≤ n ∧ Hid (g = p.extract 0 (64 * k)) ∧ Hid (∃ fs, Rnd F (k + 1) fs ∧ PBox wr S F Q (ByteArray.mk #[97]) D fs k k) ∧ Hid (Below w.heap.size w wr)) (fun _ iv _ => N - (intOf iv).toNat)
  case atStart => exact ⟨1, 0, _, rfl, rfl, rfl, Nat.zero_le _, by simp; rfl, ⟨_, Rnd.start F, HX8.out⟩, Hb8.out⟩
  case round =>
    clear HX8 Hb8
    obtain ⟨i, k, g, rfl, rfl, hik, hk, Hg, HI, Hb⟩ := hrel
    obtain ⟨fs, hR, hB⟩ := HI.out
    by_cases hlt : k < n
    · have hli : (i : Int) < (N : Int) := by have := hik.out; omega
      have HR := Lib.hid hR
      obtain ⟨ae, ce, aw, cw, af, cf, hrow, hpl⟩ := hB
      have hDD := hX.out.1
      have HOk : Hid (PoolOk S N k (ByteArray.mk #[97]) D fs) := ⟨Hgood.out D hDD, hDD, by omega, hR.fs hF1 hF2 (by omega), by omega⟩
      have HOk1 : Hid (∀ kk, PoolOk S N (k + 1) (ByteArray.mk #[97]) D (fs.set kk (k + 1, 1))) := fun kk => ⟨Hgood.out D hDD, hDD, by omega, hR.pin hF1 hF2 (by omega) (by omega) kk, by omega⟩
      have HPi := Lib.hid (ppin_any (s := i) nmA_is HOk.out (by rw [hik.out]; exact hR.good) (by rw [hR.len]; exact hF1) hik.out (by have := hik.out; omega) (by omega) _ wr hpl)
      have HPQ := Lib.hid hrow
      have hlen := hR.len
      clear hpl hR HI
      obtain ⟨⟨c0, c1, c2, c3, c4, c5, c6, c7, c8⟩, _⟩ := row9 hrow
      clear hrow hDD
      go_wp2_with fail
      (with_reducible refine HPi.out.mono ?_)
      rintro e w9 ⟨K, q, hK, rfl, hpl9, hg9⟩
      rw [← hik.out] at hpl9 HOk1
      have Hb9 := Lib.hid (Hb.out.trans (bel_grown hg9.out Hb.out.size))
      have HQ9 := Lib.hid (row_kept HPQ.out hg9.out (by simp))
      have hl9 : (fs.set K (i, 1)).length = F := by rw [List.length_set, hlen]
      have hf9 : (fs.set K (i, 1))[K]? = some (i, 0 + 1) := by rw [List.getElem?_set_self hK]
      obtain ⟨ae1, ce1, aw1, cw1, af1, cf1, _, rfl, _, _, _⟩ := hpl9.out.form
      have HL := Lib.hid (fun (W : World) (v : Value) (hv : PlAt W S (ByteArray.mk #[97]) D (fs.set K (i, 1)) i i v) => plook_any (HOk1.out K) hf9 v W hv)
      have HU := Lib.hid (fun (W : World) (v : Value) (h : Nat) (hv : PlAt W S (ByteArray.mk #[97]) D (fs.set K (i, 1)) i i v) (hh : W.cell? ⟨h, 0, none⟩ = some (.int .i64 (K : Nat))) => punpin_any (h := h) (HOk1.out K) hf9 (by omega) v W hv hh)
      have hdat : datO D (i, 0 + 1) = sec D i := by unfold datO; rw [if_neg (by show ¬ i = 0; have := hik.out; omega)]
      have Hset : Hid ((fs.set K (i, 1)).set K (i, 0) = fs.set K (i, 0)) := by rw [Hid, List.set_set]
      rw [hl9] at hpl9 ⊢
      rw [hdat] at HL
      clear HPi HOk HOk1 hf9 hdat c0 c1 c2 c3 c4 c5 c6 c7 c8 HPQ hg9
      simp only []
      go_upto_region 16 with (fail)
      have q10 := heap_alloc_new w9 (.cells #[.int .i64 (S : Nat), .slice ae1 1 ce1, .slice aw1 0 cw1, .int .i64 (-1), .bool false, .slice af1 F cf1, .int .u64 (i : Nat), .int .u64 (i : Nat), .int .u64 0] 36)
      have g10 := World.grownBy_alloc w9 (.cells #[.int .i64 (S : Nat), .slice ae1 1 ce1, .slice aw1 0 cw1, .int .i64 (-1), .bool false, .slice af1 F cf1, .int .u64 (i : Nat), .int .u64 (i : Nat), .int .u64 0] 36) none
      have Hb10 := Lib.hid (Hb9.out.trans (bel_grown g10 Hb9.out.size))
      have HQ2 : Hid (w.heap.size ≤ w9.heap.size) := Hb9.out.size
      have HQlt : Hid (Q < w9.heap.size) := row_lt HQ9.out
      have HQ10 := Lib.hid (row_kept HQ9.out g10 (by simp))
      have Hpl10 := Lib.hid (hpl9.out.grown g10)
      have Hg10 := Lib.hid g10
      generalize w9.alloc (.cells #[.int .i64 (S : Nat), .slice ae1 1 ce1, .slice aw1 0 cw1, .int .i64 (-1), .bool false, .slice af1 F cf1, .int .u64 (i : Nat), .int .u64 (i : Nat), .int .u64 0] 36) = w10 at q10 Hb10 HQ10 Hpl10 ⊢
      generalize w9.heap.size = Q2 at q10 HQ2 HQlt ⊢
      have HQ210 := Lib.hid q10
      obtain ⟨⟨c0, c1, c2, c3, c4, c5, c6, c7, c8⟩, _⟩ := row9 q10
      clear q10 g10 Hg10 Hb9 HQ9 hpl9
      go_wp2_with fail
      (with_reducible refine (HL.out w10 _ Hpl10.out).mono ?_)
      rintro e w11 ⟨rfl, hg11⟩
      have HQ11 := Lib.hid (row_kept HQ10.out hg11.out (by simp))
      have HQ211 := Lib.hid (row_kept HQ210.out hg11.out (by simp))
      have Hpl11 := Lib.hid (Hpl10.out.grown hg11.out)
      have Hb11 := Lib.hid (Hb10.out.trans (bel_grown hg11.out Hb10.out.size))
      clear HL Hpl10 HQ10 HQ210 Hb10 hg11 c0 c1 c2 c3 c4 c5 c6 c7 c8
      obtain ⟨⟨c0, c1, c2, c3, c4, c5, c6, c7, c8⟩, _⟩ := row9 HQ211.out
      simp only []
      go_wp2_with fail
      have g12 := World.grownBy_alloc w11 (.cells #[.int .i64 (K : Nat)] 3) none
      have c12 : (w11.alloc (.cells #[.int .i64 (K : Nat)] 3)).cell? ⟨w11.heap.size, 0, none⟩ = some (.int .i64 (K : Nat)) := row_cell (heap_alloc_new w11 _) 0 _ rfl
      (with_reducible refine (HU.out _ _ _ (Hpl11.out.grown g12) c12).mono ?_)
      rintro e w13 ⟨q, rfl, hpl13, hg13⟩
      rw [Hset.out] at hpl13
      have G13 : w11.grownBy w13 none := grown_trans g12 hg13.out
      have HQ13 := Lib.hid (row_kept HQ11.out G13 (by simp))
      have HQ213 := Lib.hid (row_kept HQ211.out G13 (by simp))
      have Hb13 := Lib.hid (Hb11.out.trans (bel_grown G13 Hb11.out.size))
      have hl13 : (fs.set K (i, 0)).length = F := by rw [List.length_set, hlen]
      obtain ⟨ae2, ce2, aw2, cw2, af2, cf2, h1, rfl, h2, h3, h4⟩ := hpl13.out.form
      have H13 := Lib.hid (And.intro h1 (And.intro h2 (And.intro h3 h4)))
      clear HU Hpl11 HQ11 HQ211 Hb11 g12 c12 G13 hpl13 hg13 h1 h2 h3 h4 c0 c1 c2 c3 c4 c5 c6 c7 c8
      rw [hl13]
      obtain ⟨⟨c0, c1, c2, c3, c4, c5, c6, c7, c8⟩, hfr⟩ := row9 HQ213.out
      simp only []
      go_upto_region 18 with (fail)
      clear c0 c1 c2 c3 c4 c5 c6 c7 c8 hfr
      obtain ⟨w14, hw14, HQ214, Hpl14, Hg14⟩ := put_pl (S := S) (T := i) (R := i) F hl13 (i : Nat) (i : Nat) rfl rfl HQ213.out H13.out.1 H13.out.2.1 H13.out.2.2.1 H13.out.2.2.2
      rw [hw14]
      have HQ14 := Lib.hid (row_kept HQ13.out Hg14.out (by intro e; injection e with e; have := HQlt.out; omega))
      have Hb14 := Lib.hid (Hb13.out.trans (below_grown Hg14.out HQ2.out Hb13.out.size))
      clear HQ13 HQ213 Hb13 H13 Hg14 hw14
      obtain ⟨⟨c0, c1, c2, c3, c4, c5, c6, c7, c8⟩, _⟩ := row9 HQ214.out
      obtain ⟨⟨d0, d1, d2, d3, d4, d5, d6, d7, d8⟩, hfr⟩ := row9 HQ14.out
      have hwi : IntKind.i64.wrap ((i : Int) + 1) = (i : Int) + 1 := IntWalk.i64_in _ (by omega)
      have H14 := Lib.hid (Hpl14.out.parts hl13)
      have hcc : ¬ 9223372036854775807 < g.size + (sec D i).size := by
        unfold sec
        rw [Hg.out, ByteArray.size_extract, ByteArray.size_extract]
        omega
      obtain ⟨w15, hw15, HQ15, Hpl15, Hg15⟩ := put_pl (S := S) (T := i) (R := i) F hl13 (i : Nat) (i : Nat) rfl rfl HQ14.out H14.out.1 H14.out.2.1 H14.out.2.2.1 H14.out.2.2.2
      have HW15 := Lib.hid hw15
      have HG' : Hid (g ++ sec D i = p.extract 0 (64 * (k + 1))) := (by rw [Hg.out, hik.out, Hin.out k hlt]; exact ext_step p k : g ++ sec D i = p.extract 0 (64 * (k + 1)))
      have HR' : Hid (Rnd F (k + 1 + 1) (fs.set K (i, 0))) := (by have h9 := HR.out.next K; rw [hik.out]; exact h9 : Rnd F (k + 1 + 1) (fs.set K (i, 0)))
      have HP' : Hid (PBox w15 S F Q (ByteArray.mk #[97]) D (fs.set K (i, 0)) (k + 1) (k + 1)) := (by rw [← hik.out]; exact ⟨_, _, _, _, _, _, HQ15.out, Hpl15.out⟩ : PBox w15 S F Q (ByteArray.mk #[97]) D (fs.set K (i, 0)) (k + 1) (k + 1))
      have Hb15 : Hid (Below w.heap.size w w15) := Hb14.out.trans (below_grown Hg15.out HPq.out Hb14.out.size)
      clear hw15 HQ15 Hpl15 Hg15
      go_wp2_with fail
      rw [HW15.out]
      exact ⟨⟨i + 1, k + 1, _, rfl, by rw [Int.natCast_add]; rfl, congrArg (· + 1) hik.out, by omega, HG'.out, ⟨_, HR'.out, HP'.out⟩, Hb15.out⟩, by simp [intOf]; omega⟩
    · obtain rfl : k = n := by omega
      have hli : ¬ (i : Int) < (N : Int) := by have := hik.out; omega
      obtain ⟨ae, ce, aw, cw, af, cf, hrow, hpl⟩ := hB
      obtain ⟨⟨c0, c1, c2, c3, c4, c5, c6, c7, c8⟩, _⟩ := row9 hrow
      clear hrow hpl HI hR
      have hgp : g = p := by rw [Hg.out, ← hp]; exact ByteArray.extract_zero_size
      have hgs : g.size = 64 * k := by rw [hgp]; exact hp
      have hge : g.extract 0 s.size = s := by rw [hgp]; exact hps.out
      have hle : s.size ≤ g.size := by omega
      have hlei : (s.size : Int) ≤ (g.size : Nat) := by omega
      have hw1 : IntKind.i64.wrap ((N : Int) - 1) = (k : Int) := by rw [IntWalk.i64_in _ (by omega)]; omega
      have hw2 : IntKind.u64.wrap (k : Int) = (k : Int) := IntWalk.u64_in _ (by omega)
      clear hgp hgs
      go_wp2_with fail
      go_ret
      exact ⟨rfl, Hb.out⟩
end Go.Proofs.YtihohljhjdmamaaGreat
