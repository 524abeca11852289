/- pool: WriteText, Sectors. -/
import Derived.Test.YtihohljhjdmamaaGreatPool18
namespace Go.Proofs.YtihohljhjdmamaaGreat
open Go.RowKit
set_option linter.unusedVariables false

set_option maxRecDepth 100000 in
set_option maxHeartbeats 8000000 in
theorem wtext_any {S n N : Nat} {nm : ByteArray} (s : ByteArray) (hnm : isNm nm = true) (hS : S ≤ 16384) (hs : s.size ≤ 65536) (hn : n = (s.size + 63) / 64) (hN : N = n + 1) (hnS : N ≤ S) (hn2 : n ≤ 1024) (v : Value) (w : World) (hv : DskAt w S nm none [] v) :
    Calls Tryz.prog 6 #[v, .string nm, .string s] w fun e w' => ∃ (q : Value) (D p : ByteArray), e = .returned (.tuple #[q, .int .i64 0]) ∧ D.size = 64 * N ∧ p.size = 64 * n ∧ p.extract 0 s.size = s ∧ (∀ i, i < n → sec D (i + 1) = sl p i) ∧ Hid (DskAt w' S nm (some D) [] q) ∧ Hid (w.grownBy w' none) := by
  have HS := Lib.hid disk_size
  have HP := Lib.hid (fun W (hW : w.grownBy W none) => put_any s hnm hS hs hn hN hnS hn2 v W (hv.grown hW))
  obtain ⟨ev, wv, rfl, _, _⟩ := hv
  have hNN := Lib.hid hN
  clear hn hnm hS hnS hN hn2
  obtain ⟨q0, q1, hsz⟩ := two_blocks w (.cells #[.int .i64 (S : Nat), ev, wv, .int .i64 (-1), .bool false] 26) (.cells #[.int .i64 0, .slice none 0 0, .slice none 0 0, .int .i64 0, .bool false] 26)
  have g0 := Lib.hid (grown_trans (World.grownBy_alloc w (.cells #[.int .i64 (S : Nat), ev, wv, .int .i64 (-1), .bool false] 26) none) (World.grownBy_alloc _ (.cells #[.int .i64 0, .slice none 0 0, .slice none 0 0, .int .i64 0, .bool false] 26) none))
  have Q1 := Lib.hid q1
  obtain ⟨⟨c0, c1, c2, c3, c4⟩, _⟩ := row5 q0
  have hs9 : ¬ (65536 : Int) < (s.size : Nat) := by omega
  clear q0 q1 hsz
  go_enter Tryz.func6, Tryz.ntmps6
  go_wp2_with fail
  clear c0 c1 c2 c3 c4
  generalize (w.alloc (.cells #[.int .i64 (S : Nat), ev, wv, .int .i64 (-1), .bool false] 26)).alloc (.cells #[.int .i64 0, .slice none 0 0, .slice none 0 0, .int .i64 0, .bool false] 26) = w0 at g0 Q1 ⊢
  obtain ⟨P, hP⟩ : ∃ P, P = w.heap.size := ⟨_, rfl⟩
  rw [← hP] at Q1 ⊢
  have HPe := Lib.hid hP
  clear hP
  (with_reducible refine (HP.out _ g0.out).mono ?_)
  rintro e w8 ⟨q, D, p, rfl, hD, hp, hps, hsec, hq, hg8⟩
  have hX := Lib.hid (And.intro hD (And.intro hp (And.intro hps hsec)))
  clear hD hp hps hsec
  have Hrow8 := Lib.hid (row_kept Q1.out hg8.out (by simp))
  have g8 := Lib.hid (grown_trans g0.out hg8.out)
  obtain ⟨ev', wv', rfl, he8, hw8⟩ := hq.out
  obtain ⟨ae, ce, ree, _⟩ := id he8
  obtain ⟨aw, cw, rww, _⟩ := id hw8
  have ree : ev' = .slice ae 1 ce := ree
  have rww : wv' = .slice aw 0 cw := rww
  subst ree rww
  obtain ⟨⟨d0, d1, d2, d3, d4⟩, f0, f1, f2, f3, f4⟩ := row5 Hrow8.out
  have H8 := Lib.hid (And.intro he8 hw8)
  clear he8 hw8 hq
  simp only []
  go_wp2_with fail
  obtain ⟨hr1, hg9⟩ := row_put5 (.int .i64 (S : Nat)) (.slice ae 1 ce) (.slice aw 0 cw) (.int .i64 (-1)) (.bool false) Hrow8.out
  have k1 : RowAt _ (.slice ae 1 ce) (exN (some D)) (exC nm (some D)) := H8.out.1.put (exC_head nm (some D)) d0 hg9
  have k2 : RowAt _ (.slice aw 0 cw) 0 (wsC nm []) := H8.out.2.put (wsC_head nm []) d0 hg9
  have g9 := grown_own g8.out hg9 (by have := HPe.out; omega)
  have K := Lib.hid (And.intro k1 (And.intro k2 g9))
  have Hr1 := Lib.hid hr1
  clear k1 k2 g9 hg9 hr1 d0 d1 d2 d3 d4 f0 f1 f2 f3 f4
  generalize (((((w8.setCell ⟨P + 1, 0, none⟩ (.int .i64 (S : Nat))).setCell ⟨P + 1, 1, none⟩ (.slice ae 1 ce)).setCell ⟨P + 1, 2, none⟩ (.slice aw 0 cw)).setCell ⟨P + 1, 3, none⟩ (.int .i64 (-1))).setCell ⟨P + 1, 4, none⟩ (.bool false)) = W at K Hr1 ⊢
  refine bodyPost_ret (results_row_tmp (fn := Tryz.f6) (p := 6) (q := 7) (ty := 26) rfl _ _ (P + 1) 26 _ _ _ rfl Hr1.out Tryz.underlying26 rfl HS.out) rfl ?_
  exact ⟨_, D, p, rfl, hX.out.1, hX.out.2.1, hX.out.2.2.1, hX.out.2.2.2, ⟨_, _, rfl, K.out.1, K.out.2.1⟩, K.out.2.2⟩

set_option maxRecDepth 100000 in
set_option maxHeartbeats 8000000 in
theorem dsec_any {S N : Nat} {nm D : ByteArray} (hG : Good S nm (some D) []) (hD : D.size = 64 * N) (hN : N ≤ 16384) (v : Value) (w : World) (hv : DskAt w S nm (some D) [] v) :
    Calls Tryz.prog 7 #[v, .string nm] w fun e w' => e = .returned (.tuple #[.int .i64 (N : Nat), .int .i64 0]) ∧ Hid (w.grownBy w' none) := by
  have HO : Hid (∀ W, w.grownBy W none → Calls Tryz.prog 16 #[v] W fun e w' => ∃ b, e = .returned (.tuple #[.pointer (some ⟨b, 0, none⟩), .int .i64 0]) ∧ DevAt w' W.heap.size b S nm (some D) [] ∧ Hid (W.grownBy w' none)) := fun W hW => open_disk hG v W (hv.grown hW)
  have HSe := Lib.hid (fun W => sectors_any nm D N hD hN W)
  have HFi := Lib.hid (fun (ev : Value) (W : World) (he : RowAt W ev (exN (some D)) (exC nm (some D))) => find_any (S := S) (nm := nm) (E := some D) nm ev W he)
  obtain ⟨ev, wv, rfl, _, _⟩ := hv
  have g0 := Lib.hid (World.grownBy_alloc w (.cells #[.int .i64 (S : Nat), ev, wv, .int .i64 (-1), .bool false] 26) none)
  obtain ⟨⟨c0, c1, c2, c3, c4⟩, _⟩ := row5 (heap_alloc_new w (.cells #[.int .i64 (S : Nat), ev, wv, .int .i64 (-1), .bool false] 26))
  clear hD hG hN
  go_enter Tryz.func7, Tryz.ntmps7
  go_wp2_with fail
  clear c0 c1 c2 c3 c4
  (with_reducible refine (HO.out _ g0.out).mono ?_)
  rintro e w1 ⟨b, rfl, hA, hg1⟩
  obtain ⟨ae, ce, aw, cw, hr8, he8, hw8⟩ := hA.at_
  have hr9 : w1.heap[b]? = some (.cells #[.int .i64 (S : Nat), .slice ae 1 ce, .slice aw 0 cw, .int .i64 (-1), .bool false] 59 (0, 0)) := hr8
  have R9 := Lib.hid hr9
  have h1 : RowAt w1 (.slice ae 1 ce) (exN (some D)) (exC nm (some D)) := RowAt.of_owns he8
  have H1 := Lib.hid h1
  obtain ⟨⟨c0, c1, c2, c3, c4⟩, _⟩ := row5 hr9
  have G1 := Lib.hid (grown_trans g0.out hg1.out)
  clear hr8 hr9 he8 hw8 hA h1 hg1 g0
  simp only []
  go_wp2_with fail
  (with_reducible refine (HFi.out _ w1 H1.out).mono ?_)
  rintro e w2 ⟨i, rfl, hi, hg2⟩
  clear c0 c1 c2 c3 c4
  have hb : ((some D).isSome && isA nm nm) = true := by rw [isA_self]; rfl
  obtain rfl := hi hb
  rw [hb]
  clear hb hi
  obtain ⟨⟨c0, c1, c2, c3, c4⟩, _⟩ := row5 (row_kept R9.out hg2.out (by simp))
  obtain ⟨ge, ce', e1, k0, k1⟩ := (H1.out.grown hg2.out).one
  injection e1 with e1 e2 e3
  subst e1 e3
  simp only []
  go_wp2_with fail
  (with_reducible refine (HSe.out w2).mono ?_)
  rintro e w3 ⟨rfl, hg3⟩
  clear c0 c1 c2 c3 c4 k0 k1
  simp only []
  go_wp2_with fail
  go_ret2
  exact ⟨rfl, grown_trans G1.out (grown_trans hg2.out hg3.out)⟩
end Go.Proofs.YtihohljhjdmamaaGreat
