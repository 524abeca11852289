/- pool: a text's file is written. -/
import Derived.Test.YtihohljhjdmamaaGreatPool16
import Derived.Test.YtihohljhjdmamaaGreatPool1
import Derived.Test.YtihohljhjdmamaaGreatPool3
import Derived.BigQuiet
import Derived.Test.YtihohljhjdmamaaGreatPool17
namespace Go.Proofs.YtihohljhjdmamaaGreat
open Go.RowKit
set_option linter.unusedVariables false

set_option maxRecDepth 100000 in
set_option maxHeartbeats 8000000 in
theorem put_any {S n N : Nat} {nm : ByteArray} (s : ByteArray) (hnm : isNm nm = true) (hS : S ≤ 16384) (hs : s.size ≤ 65536) (hn : n = (s.size + 63) / 64) (hN : N = n + 1) (hnS : N ≤ S) (hn2 : n ≤ 1024) (v : Value) (w : World) (hv : DskAt w S nm none [] v) :
    Calls Tryz.prog 15 #[v, .string nm, .int .i64 0, .int .i64 (s.size : Nat), .string s] w fun e w' => ∃ (q : Value) (D p : ByteArray), e = .returned (.tuple #[q, .int .i64 0]) ∧ D.size = 64 * N ∧ p.size = 64 * n ∧ p.extract 0 s.size = s ∧ (∀ i, i < n → sec D (i + 1) = sl p i) ∧ Hid (DskAt w' S nm (some D) [] q) ∧ Hid (w.grownBy w' none) := by
  have HS := Lib.hid disk_size
  have HO : Hid (∀ W, w.grownBy W none → Calls Tryz.prog 16 #[v] W fun e w' => ∃ b, e = .returned (.tuple #[.pointer (some ⟨b, 0, none⟩), .int .i64 0]) ∧ DevAt w' W.heap.size b S nm none [] ∧ Hid (W.grownBy w' none)) := fun W hW => open_disk ⟨hS, hnm, (fun D e => by cases e), by simp, (fun p hp => by simp at hp)⟩ v W (hv.grown hW)
  have HN : Hid (∀ W, Calls Tryz.prog 36 #[.int .i64 0, .int .u64 (s.size : Nat)] W fun e w' => e = .returned (.tuple #[.int .i64 (N : Nat), .int .i64 0]) ∧ w' = W) := fun W => by
    have := need_any s.size hs W
    rwa [show needN s.size = N by unfold needN; omega] at this
  have HW : Hid (∀ (W : World) (B b : Nat), B ≤ W.heap.size → DevAt W B b S nm none [] → Calls Tryz.prog 37 #[.pointer (some ⟨b, 0, none⟩), .string nm, .int .i64 (N : Nat)] W fun e w' => ∃ D : ByteArray, D.size = 64 * N ∧ e = .returned (.int .i64 0) ∧ DevAt w' B b S nm (some D) [] ∧ Below B W w') := fun W B b hB h => devnew_ok N (by omega) hnS hS hnm W h hB
  have HP : Hid (∀ W, Calls Tryz.prog 38 #[.string s] W fun e w' => ∃ p : ByteArray, e = .returned (.string p) ∧ p.size = 64 * n ∧ p.extract 0 s.size = s ∧ Hid (W.grownBy w' none)) := fun W => by rw [hn]; exact padded_any s hs W
  have HH := Lib.hid (fun W => head_any s.size hs W)
  have HWr : Hid (∀ (W : World) (B b i : Nat) (D d : ByteArray) (ws : List (Nat × ByteArray)), B ≤ W.heap.size → D.size = 64 * N → i < N → d.size = 64 → ws.length < 16384 → DevAt W B b S nm (some D) ws → Calls Tryz.prog 39 #[.pointer (some ⟨b, 0, none⟩), .string nm, .int .i64 (i : Nat), .string d] W fun e w' => e = .returned (.int .i64 0) ∧ DevAt w' B b S nm (some D) (ws ++ [(i, d)]) ∧ Below B W w') := fun W B b i D d ws hB hD hi hd hl h => devwrite_ok i d hD hi (by omega) hd hl W h hB
  have HSy : Hid (∀ (W : World) (B b : Nat) (D : ByteArray) (ws : List (Nat × ByteArray)), B ≤ W.heap.size → D.size = 64 * N → ws.length ≤ 16384 → (∀ p ∈ ws, p.1 ≤ n ∧ p.2.size = 64) → DevAt W B b S nm (some D) ws → Calls Tryz.prog 40 #[.pointer (some ⟨b, 0, none⟩)] W fun e w' => e = .returned (.tuple #[]) ∧ DevAt w' B b S nm (some (dall ws D)) [] ∧ Below B W w') := fun W B b D ws hB hD hl hw h => devsync_any ⟨hS, hnm, (fun D' e => by injection e with e; subst e; exact ⟨N, hD, by omega, hnS⟩), hl, (fun p hp => ⟨D, rfl, by have := (hw p hp).1; omega, (hw p hp).2⟩)⟩ W h hB
  obtain ⟨ev, wv, rfl, _, _⟩ := hv
  have hu : IntKind.u64.wrap (s.size : Nat) = (s.size : Nat) := IntWalk.u64_in _ (by omega)
  have hN1 : n < N := by omega
  have hN2 : N ≤ n + 1 := by omega
  have HNN := Lib.hid hN
  clear hn hnm hS hnS hN
  obtain ⟨q0, q1, hsz⟩ := two_blocks w (.cells #[.int .i64 (S : Nat), ev, wv, .int .i64 (-1), .bool false] 26) (.cells #[.int .i64 0, .slice none 0 0, .slice none 0 0, .int .i64 0, .bool false] 26)
  have g0 := Lib.hid (grown_trans (World.grownBy_alloc w (.cells #[.int .i64 (S : Nat), ev, wv, .int .i64 (-1), .bool false] 26) none) (World.grownBy_alloc _ (.cells #[.int .i64 0, .slice none 0 0, .slice none 0 0, .int .i64 0, .bool false] 26) none))
  have Q1 := Lib.hid q1
  obtain ⟨⟨c0, c1, c2, c3, c4⟩, _⟩ := row5 q0
  clear q0 q1 hsz
  go_enter Tryz.func15, Tryz.ntmps15
  go_wp2_with fail
  clear c0 c1 c2 c3 c4
  generalize (w.alloc (.cells #[.int .i64 (S : Nat), ev, wv, .int .i64 (-1), .bool false] 26)).alloc (.cells #[.int .i64 0, .slice none 0 0, .slice none 0 0, .int .i64 0, .bool false] 26) = w0 at g0 Q1 ⊢
  obtain ⟨P, hP⟩ : ∃ P, P = w.heap.size := ⟨_, rfl⟩
  rw [← hP] at Q1 ⊢
  have HPe := Lib.hid hP
  clear hP
  (with_reducible refine (HO.out _ g0.out).mono ?_)
  rintro e w1 ⟨b, rfl, hA, hg1⟩
  have Hb1 : Hid (Below w0.heap.size w0 w1) := bel_grown hg1.out (Nat.le_refl _)
  have HA := Lib.hid hA
  clear hA hg1
  simp only []
  go_wp2_with fail
  (with_reducible refine (HN.out _).mono ?_)
  rintro e w2 ⟨rfl, hw2⟩
  obtain rfl : w1 = w2 := hw2.symm
  simp only []
  go_wp2_with fail
  (with_reducible refine (HW.out w1 _ b Hb1.out.size HA.out).mono ?_)
  rintro e w3 ⟨D, hD, rfl, hA3, hb3⟩
  have Hb3 : Hid (Below w0.heap.size w0 w3) := Hb1.out.trans hb3
  have HA3 := Lib.hid hA3
  have HD := Lib.hid hD
  clear HA Hb1 hA3 hb3 hD
  simp only []
  go_wp2_with fail
  (with_reducible refine (HP.out _).mono ?_)
  rintro e w4 ⟨p, rfl, hp, hps, hg4⟩
  have Hb4 : Hid (Below w0.heap.size w0 w4) := Hb3.out.trans (bel_grown hg4.out Hb3.out.size)
  have HA4 : Hid (DevAt w4 w0.heap.size b S nm (some D) []) := HA3.out.grown hg4.out
  have Hps := Lib.hid hps
  clear HA3 Hb3 hg4 hps
  simp only []
  go_wp2_with fail
  have hp2 : p.size ≤ 65536 := by omega
  go_loopw [13, 15, 16] (fun ev iv sv wr => ∃ (i k : Nat) (q : ByteArray), Hid (i = k + 1) ∧ ev = .int .i64 0 ∧ iv = .int .i64 (i : Nat) ∧ sv = .string q ∧ k ≤ n ∧ q.size = 64 * (n - k) ∧ Hid (q = tl p k) ∧ Hid (DevAt wr w0.heap.size b S nm (some D) (wsK p k)) ∧ Hid (Below w0.heap.size w0 wr)) (fun _ iv _ _ => N - (intOf iv).toNat)
  case atStart => exact ⟨1, 0, p, rfl, rfl, rfl, rfl, Nat.zero_le _, by omega, (tl_zero p).symm, HA4.out, Hb4.out⟩
  case round =>
    clear HA4 Hb4
    obtain ⟨i, k, q, hik, rfl, rfl, rfl, hk, hqs, Hq, hA, hb⟩ := hrel
    have hBr : Hid (w0.heap.size ≤ wr.heap.size) := hb.out.size
    by_cases hlt : k < n
    · have hli : (i : Int) < (N : Int) := by have := hik.out; omega
      have hq64 : 64 ≤ q.size := by omega
      have hpk : 64 * k + 64 ≤ p.size := by omega
      have e1 : q.extract 0 64 = sl p k := by rw [Hq.out]; exact tl_head hpk
      have e2 : q.extract 64 (64 * (n - k)) = tl p (k + 1) := by rw [← hqs, Hq.out]; exact tl_tail hpk
      have E1 := Lib.hid e1
      have E2 := Lib.hid e2
      have HW1 := Lib.hid (HWr.out wr _ b i D (q.extract 0 64) (wsK p k) hBr.out HD.out (by have := hik.out; omega) (by rw [e1]; exact sl_size hpk) (by rw [wsK_length]; omega) hA.out)
      clear hA e1 e2
      go_wp2_with fail
      (with_reducible refine HW1.out.mono ?_)
      rintro e w5 ⟨rfl, hA5, hb5⟩
      have HA5 : Hid (DevAt w5 w0.heap.size b S nm (some D) (wsK p (k + 1))) := by
        rw [wsK_succ, ← E1.out, ← hik.out]; exact hA5
      have Hb5 : Hid (Below w0.heap.size w0 w5) := hb.out.trans hb5
      clear hA5 hb5 HW1
      have hwi : IntKind.i64.wrap ((i : Int) + 1) = (i : Int) + 1 := IntWalk.i64_in _ (by omega)
      simp only []
      go_wp2_with fail
      go_quiet (fail)
      clear hwi
      go_wp2_with fail
      exact ⟨⟨i + 1, k + 1, _, congrArg (· + 1) hik.out, rfl, by rw [Int.natCast_add]; rfl, rfl, by omega, by rw [E2.out, tl_size]; omega, E2.out, HA5.out.grown (grown_drewN _ _ _), below_drewN Hb5.out _⟩, by simp [intOf]; omega⟩
    · obtain rfl : k = n := by omega
      have hli : ¬ (i : Int) < (N : Int) := by have := hik.out; omega
      have hww := fun x hx => wsK_mem (p := p) (n := k) (by omega) (x := x) hx
      have HS1 := Lib.hid (HSy.out wr _ b D (wsK p k) hBr.out HD.out (by rw [wsK_length]; omega) hww hA.out)
      clear hww hA
      go_wp2_with fail
      (with_reducible refine HS1.out.mono ?_)
      rintro e w5 ⟨rfl, hA5, hb5⟩
      have HA5 := Lib.hid hA5
      have Hb5 : Hid (Below w0.heap.size w0 w5) := hb.out.trans hb5
      clear hA5 hb5 HS1
      simp only []
      go_wp2_with fail
      (with_reducible refine (HH.out _).mono ?_)
      rintro e w6 ⟨h, hh, rfl, hg6⟩
      have HF := Lib.hid (file_sec (p := p) (D := D) (h := h) (n := k) hp (by rw [HD.out, HNN.out]) hh)
      have HA6 := Lib.hid (HA5.out.grown hg6.out)
      have Hb6 : Hid (Below w0.heap.size w0 w6) := Hb5.out.trans (bel_grown hg6.out Hb5.out.size)
      have HD1 : Hid ((dall (wsK p k) D).size = 64 * N) := by rw [HNN.out]; exact HF.out.2.1
      have hz := HWr.out w6 _ b 0 (dall (wsK p k) D) h [] Hb6.out.size HD1.out (by omega) hh (by simp) HA6.out
      rw [show ((0 : Nat) : Int) = 0 from rfl] at hz
      have HW2 := Lib.hid hz
      clear hz
      clear HA5 HA6 Hb5
      simp only []
      go_wp2_with fail
      (with_reducible refine HW2.out.mono ?_)
      rintro e w7 ⟨rfl, hA7, hb7⟩
      have Hb7 : Hid (Below w0.heap.size w0 w7) := Hb6.out.trans hb7
      have HS2 := Lib.hid (HSy.out w7 _ b (dall (wsK p k) D) [(0, h)] Hb7.out.size HD1.out (by simp) (by intro x hx; simp at hx; subst hx; exact ⟨Nat.zero_le _, hh⟩) hA7)
      clear hA7 hb7 HW2 Hb6
      simp only []
      go_wp2_with fail
      (with_reducible refine HS2.out.mono ?_)
      rintro e w8 ⟨rfl, hA8, hb8⟩
      have Hb8 : Hid (Below w0.heap.size w0 w8) := Hb7.out.trans hb8
      clear hb8
      have Hlt := Lib.hid (row_lt Q1.out)
      have Hrow8 : Hid (w8.heap[P + 1]? = some (.cells #[.int .i64 0, .slice none 0 0, .slice none 0 0, .int .i64 0, .bool false] 26 (0, 0))) := (Hb8.out.block (P + 1) Hlt.out).trans Q1.out
      obtain ⟨ae, ce, aw, cw, hr8, he8, hw8⟩ := hA8.at_
      have hr9 : w8.heap[b]? = some (.cells #[.int .i64 (S : Nat), .slice ae 1 ce, .slice aw 0 cw, .int .i64 (-1), .bool false] 59 (0, 0)) := hr8
      have H8 := Lib.hid (And.intro he8 hw8)
      obtain ⟨⟨c0, c1, c2, c3, c4⟩, _⟩ := row5 hr9
      obtain ⟨⟨d0, d1, d2, d3, d4⟩, f0, f1, f2, f3, f4⟩ := row5 Hrow8.out
      clear HS2 Hb7 hr8 hr9 he8 hw8 hA8
      simp only []
      go_wp2_with fail
      clear c0 c1 c2 c3 c4 d0 d1 d2 d3 d4 f0 f1 f2 f3 f4
      obtain ⟨hr1, hg8⟩ := row_put5 (.int .i64 (S : Nat)) (.slice ae 1 ce) (.slice aw 0 cw) (.int .i64 (-1)) (.bool false) Hrow8.out
      have k1 := RowAt.of_owns (World.ownsRow.kept H8.out.1 hg8 (.inr (own_ne_row H8.out.1 Hrow8.out (by decide))))
      have k2 := RowAt.of_owns (World.ownsRow.kept H8.out.2 hg8 (.inr (own_ne_row H8.out.2 Hrow8.out (by decide))))
      have g8 : w.grownBy w8 none := grown_bel ((bel_grown g0.out (Nat.le_refl _)).trans (Hb8.out.mono g0.out.size)) none
      have g9 := grown_own g8 hg8 (by have := HPe.out; omega)
      have K := Lib.hid (And.intro k1 (And.intro k2 g9))
      have Hr1 := Lib.hid hr1
      clear k1 k2 g8 g9 hg8 hr1
      generalize (((((w8.setCell ⟨P + 1, 0, none⟩ (.int .i64 (S : Nat))).setCell ⟨P + 1, 1, none⟩ (.slice ae 1 ce)).setCell ⟨P + 1, 2, none⟩ (.slice aw 0 cw)).setCell ⟨P + 1, 3, none⟩ (.int .i64 (-1))).setCell ⟨P + 1, 4, none⟩ (.bool false)) = W at K Hr1 ⊢
      refine bodyPost_ret (results_row_tmp (fn := Tryz.f15) (p := 10) (q := 11) (ty := 26) rfl _ _ (P + 1) 26 _ _ _ rfl Hr1.out Tryz.underlying26 rfl HS.out) rfl ?_
      exact ⟨_, _, p, rfl, by rw [HF.out.1, HNN.out], hp, Hps.out, HF.out.2.2, ⟨_, _, rfl, K.out.1, K.out.2.1⟩, K.out.2.2⟩
end Go.Proofs.YtihohljhjdmamaaGreat
