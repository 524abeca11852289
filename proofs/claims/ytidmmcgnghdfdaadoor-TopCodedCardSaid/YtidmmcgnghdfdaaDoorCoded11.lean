/- table's Write. -/
import Derived.Test.YtidmmcgnghdfdaaDoorCoded10
namespace Go.Proofs.YtidmmcgnghdfdaaDoor
open Go.RowKit SortPlain PackPlain CanonPlain BitsPlain
set_option linter.unusedVariables false

set_option maxRecDepth 100000 in
set_option maxHeartbeats 8000000 in
theorem twrite_any (vx : Value) (X : List Nat) (b : ByteArray) (m : List Bool) (w : World) (hx : IntsAt w vx X) (hok : CodeOk X) (hm : IsBits b.data.toList m) (hml : m.length + (tabBits X).length ≤ 1048576) :
    Calls Tryd.prog 6 #[.agg #[.string b, .int .i64 (m.length : Nat)], vx] w fun e w' => ∃ B', IsBits B' (m ++ tabBits X) ∧ e = .returned (.tuple #[.agg #[.string ⟨B'.toArray⟩, .int .i64 ((m ++ tabBits X).length : Nat)], .int .i64 0]) ∧ Hid (w.grownBy w' none) := by
  have HS2 : Hid ((Tryd.prog.info? 31).map (·.size) = some 2) := Lib.hid (by kernel_rfl)
  have Hchk := Lib.hid (fun w => check_good b m w hm (by omega))
  have hT0 : sizeTo X X.length = (tabBits X).length := by rw [tabBits_eq, tabTo_length]
  have HO : Hid (∀ W, w.grownBy W none → Calls Tryd.prog 11 #[vx] W fun e w' => e = .returned (.tuple #[.int .i64 ((tabBits X).length : Nat), .int .i64 0]) ∧ Hid (W.grownBy w' none)) := fun W hW => by
    have h1 := size_any vx X W (hx.grown hW) hok
    rw [hT0] at h1
    exact h1
  have HTa : Hid (∀ (w0 W : World) (B : Nat), w.grownBy w0 none → B = w0.heap.size → IsWriter W B B m → w0.grownBy W none → Calls Tryd.prog 21 #[.pointer (some ⟨B, 0, none⟩), vx] W fun e w' => e = .returned (.tuple #[]) ∧ Hid (IsWriter w' B B (m ++ tabBits X)) ∧ Hid (w0.grownBy w' none)) := fun w0 W B h1 h2 h3 h4 => tadd_any B B vx X m w0 W h2 (hx.grown h1) hok.pos hok.len hok.le h3 h4 (by omega)
  have Hm := Lib.hid hm
  clear hx hok hm hT0
  obtain ⟨n, hn⟩ : ∃ n : Nat, n = m.length := ⟨_, rfl⟩
  rw [← hn] at Hchk hml ⊢
  have Hn := Lib.hid hn
  obtain ⟨T, hT⟩ : ∃ T, T = (tabBits X).length := ⟨_, rfl⟩
  rw [← hT] at hml HO
  have HT := Lib.hid hT
  clear hn hT
  have hTw : IntKind.i64.wrap (1048576 - (T : Int)) = 1048576 - (T : Int) := IntWalk.i64_in _ (by omega)
  have hnT : ¬ 1048576 - (T : Int) < (n : Int) := by omega
  have hTi : (T : Int) ≤ 1048576 := by omega
  go_enter Tryd.func6, Tryd.ntmps6
  go_wp2_with fail
  have hgw : w.grownBy ((w.alloc (.cells #[.string b, .int .i64 (n : Nat)] 31)).alloc (.cells #[.string ⟨#[]⟩, .int .i64 0] 31)) none := grown_trans (World.grownBy_alloc _ _ _) (World.grownBy_alloc _ _ _)
  have hf := two_blocks w (.cells #[.string b, .int .i64 (n : Nat)] 31) (.cells #[.string ⟨#[]⟩, .int .i64 0] 31)
  generalize ((w.alloc (.cells #[.string b, .int .i64 (n : Nat)] 31)).alloc (.cells #[.string ⟨#[]⟩, .int .i64 0] 31)) = W at hgw hf ⊢
  have HF := Lib.hid (fun W' (hg : W.grownBy W' none) => And.intro (cells2 hf.1 hg (by simp)) (cells2 hf.2.1 hg (by simp)))
  have Hgw := Lib.hid hgw
  have Hsz := Lib.hid hf.2.2
  obtain ⟨⟨a1, a2, a3, a4, a5⟩, ⟨b1, b2, b3, b4, b5⟩⟩ := HF.out W (grown_self _ _)
  clear hf hgw
  go_wp2_with (first
    | (go_at_call 19; refine (Hchk.out _).mono ?_; rintro e w1 ⟨rfl, hb1⟩; clear a1 a2 a3 a4 a5 b1 b2 b3 b4 b5; have Hg1 := Lib.hid (grown_of_below hb1); clear hb1)
    | (go_at_call 11; (with_reducible refine (HO.out _ (grown_trans Hgw.out Hg1.out)).mono ?_); rintro e w2 ⟨rfl, hg2⟩; obtain ⟨⟨a1, a2, a3, a4, a5⟩, ⟨b1, b2, b3, b4, b5⟩⟩ := HF.out w2 (grown_trans Hg1.out hg2.out); have q1 : ∀ O, (w2.alloc O).cell? ⟨w.heap.size, 0, none⟩ = some (.string b) := (fun O => (HF.out _ (grown_trans (grown_trans Hg1.out hg2.out) (World.grownBy_alloc w2 O none))).1.2.1); have q2 : ∀ O, (w2.alloc O).cell? ⟨w.heap.size, 1, none⟩ = some (.int .i64 (n : Nat)) := (fun O => (HF.out _ (grown_trans (grown_trans Hg1.out hg2.out) (World.grownBy_alloc w2 O none))).1.2.2.1))
    | fail)
  clear q1 q2 a1 a2 a3 a4 a5 b1 b2 b3 b4 b5
  have hnew := heap_alloc_new w2 (.cells #[.slice none 0 0, .int .u64 0, .int .i64 0] 56)
  have hw2 : IsWriter (w2.alloc (.cells #[.slice none 0 0, .int .u64 0, .int .i64 0] 56)) w2.heap.size w2.heap.size [] :=
    ⟨[], [], _, rfl, Nat.le_refl _, by decide, hnew, Owns.nil _ _ _⟩
  have hg12 := World.grownBy_alloc w2 (.cells #[.slice none 0 0, .int .u64 0, .int .i64 0] 56) none
  generalize (w2.alloc (.cells #[.slice none 0 0, .int .u64 0, .int .i64 0] 56)) = w3 at hw2 hg12 ⊢
  clear hnew
  obtain ⟨B, hB⟩ : ∃ B, B = w2.heap.size := ⟨_, rfl⟩
  rw [← hB] at hw2 ⊢
  have HBe := Lib.hid hB
  have Hcopy := Lib.hid (copy_any B B [] m b w3 hw2 Hm.out (by have := Hn.out; simp; omega) (by rw [hB]; exact hg12.size))
  rw [← Hn.out] at Hcopy
  have Hg12 := Lib.hid hg12
  clear hw2 hg12 hB
  with_reducible refine Hcopy.out.mono ?_
  rintro e w4 ⟨rfl, hc1, hc2, hc3⟩
  have Hw4 : Hid (IsWriter w4 B B m) := hc1
  have Hg4 : Hid (w2.grownBy w4 none) := grown_chain HBe.out Hg12.out hc2
  clear hc1 hc2 hc3
  simp only []
  go_wp2_with (first
    | (go_at_call 21; (with_reducible refine (HTa.out _ _ _ (grown_trans Hgw.out (grown_trans Hg1.out hg2.out)) HBe.out Hw4.out Hg4.out).mono ?_); rintro e wr ⟨rfl, hwr, hg⟩)
    | fail)
  have Hgwr : Hid (w.grownBy wr none) := grown_trans Hgw.out (grown_trans Hg1.out (grown_trans hg2.out hg.out))
  obtain ⟨o, r, vv, he, hwa⟩ := hwr.out
  have hol : 8 * o.length + r.length = n + T := by
    have h1 := congrArg List.length he
    rw [List.length_append, List.length_append, length_unpack, ← Hn.out, ← HT.out] at h1
    omega
  have HBits := Lib.hid (bits_any B B o r vv wr hwa (by omega))
  have hlen : 8 * o.length + r.length = (m ++ tabBits X).length := by
    rw [List.length_append, ← Hn.out, ← HT.out]
    omega
  rw [hlen] at HBits
  generalize hKK : (m ++ tabBits X).length = KK at HBits ⊢
  have Hhe := Lib.hid he
  have HKK := Lib.hid hKK
  clear hlen hol hKK he hwa
  with_reducible refine HBits.out.mono ?_
  rintro e w5 ⟨B', he1, rfl, he2⟩
  have He1 := Lib.hid he1
  have He2 := Lib.hid (grown_of_below he2)
  clear he1 he2
  obtain ⟨⟨a1, a2, a3, a4, a5⟩, ⟨b1, b2, b3, b4, b5⟩⟩ := HF.out w5 (grown_trans Hg1.out (grown_trans hg2.out (grown_trans hg.out He2.out)))
  simp only []
  go_wp2_with fail
  have hts := two_cells w5 (w.heap.size + 1) _ _ (.string ⟨B'.toArray⟩) (.int .i64 (KK : Int)) _ b1
  have hbl2 : w.grownBy ((w5.setCell ⟨w.heap.size + 1, 0, none⟩ (.string ⟨B'.toArray⟩)).setCell ⟨w.heap.size + 1, 1, none⟩ (.int .i64 (KK : Int))) none := by
    have h1 := grown_trans Hgwr.out He2.out
    exact grown_bel ((bel_grown h1 (Nat.le_refl _)).trans (below_grown hts.2 (by omega) h1.size)) none
  have hrow := hts.1
  clear hts a1 a2 a3 a4 a5 b1 b2 b3 b4 b5
  generalize ((w5.setCell ⟨w.heap.size + 1, 0, none⟩ (.string ⟨B'.toArray⟩)).setCell ⟨w.heap.size + 1, 1, none⟩ (.int .i64 (KK : Int))) = w6 at hrow hbl2 ⊢
  refine bodyPost_ret (results_row_tmp (fn := Tryd.f6) (p := 4) (q := 5) (ty := 31) rfl _ _ (w.heap.size + 1) 31 _ _ _ rfl hrow Tryd.underlying31 rfl HS2.out) rfl ?_
  refine ⟨B', ?_, by rw [HKK.out]; rfl, hbl2⟩
  have h2 := He1.out
  rw [← Hhe.out] at h2
  exact h2
end Go.Proofs.YtidmmcgnghdfdaaDoor
