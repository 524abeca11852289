/- What bits' Put, At, Get and Turn do, at right bits. -/
import Derived.Test.YtihohljhjdmamaaGreatBits4
import Derived.Test.YtihohljhjdmamaaGreatShelf
namespace Go.Proofs.YtihohljhjdmamaaGreat
open Go.RowKit BitsPlain
set_option linter.unusedVariables false

theorem wide_of (v width : Nat) (h : v < 2 ^ width) (hw : width ≤ 64) : Lib.bitLen v ≤ width := Lib.bitLen_le v width hw h

theorem put_chain {W w1 w2 w3 w4 w5 : World} (h1 : W.grownBy w1 none) (h2 : w1.grownBy w2 none) (h3 : Below w1.heap.size w2 w3) (h4 : Below w1.heap.size w3 w4) (h5 : Below w4.heap.size w4 w5) : W.grownBy w5 none := by
  have e1 : Below w1.heap.size w1 w2 := below_none h2 (Nat.le_refl _)
  have e2 := (e1.trans h3).trans h4
  have e3 : Below w1.heap.size w4 w5 := h5.mono (e2.size)
  exact grown_trans h1 (grown_of_below (e2.trans e3))

theorem two_blocks (w : World) (x y : Obj) : ((w.alloc x).alloc y).heap[w.heap.size]? = some x ∧ ((w.alloc x).alloc y).heap[w.heap.size + 1]? = some y ∧ ((w.alloc x).alloc y).heap.size = w.heap.size + 2 := by
  have h1 := heap_alloc_new w x
  have h2 := heap_alloc_new (w.alloc x) y
  have e : (w.alloc x).heap.size = w.heap.size + 1 := Array.size_push _
  rw [e] at h2
  refine ⟨((World.grownBy_alloc _ _ none).block _ (by omega) (by simp)).trans h1, h2, ?_⟩
  have : ((w.alloc x).alloc y).heap.size = (w.alloc x).heap.size + 1 := Array.size_push _
  omega

set_option maxRecDepth 100000 in
set_option maxHeartbeats 2000000 in
theorem put_good (b : ByteArray) (m : List Bool) (v width : Nat) (w : World) (hm : IsBits b.data.toList m) (hw : width ≤ 64) (hv : v < 2 ^ width) (hl : m.length + width ≤ 1048576) :
    Calls Tryz.prog 12 #[.agg #[.string b, .int .i64 (m.length : Nat)], .int .u64 (v : Nat), .int .i64 (width : Nat)] w fun e w' => ∃ B', IsBits B' (m ++ bitsOf v width) ∧ e = .returned (.tuple #[.agg #[.string ⟨B'.toArray⟩, .int .i64 ((m.length + width : Nat) : Int)], .int .i64 0]) ∧ Below w.heap.size w w' := by
  have hbl := wide_of v width hv hw
  have hv64 : v < 18446744073709551616 := Nat.lt_of_lt_of_le hv (Nat.le_trans (pow_le_pow2 hw) (by decide))
  have hgt : ¬ ((width : Int) < (Lib.bitLen v : Int)) := by omega
  have HS : Hid ((Tryz.prog.info? 46).map (·.size) = some 2) := Lib.hid (by kernel_rfl)
  have Hchk := Lib.hid (fun w => check_good b m w hm (by omega))
  have Hwide := Lib.hid (fun w => wide_any width w hw)
  have Hlen : Hid (∀ w, Calls Tryz.prog 31 #[.int .u64 (v : Nat)] w fun e w' => e = .returned (.int .i64 (Lib.bitLen v : Nat)) ∧ w' = w) := fun w => by
    have := Tryz.bits_Len64 v w (by omega) (by omega)
    simpa using this
  have Hm := Lib.hid hm
  obtain ⟨n, hn⟩ : ∃ n : Nat, n = m.length := ⟨_, rfl⟩
  rw [← hn] at Hchk hl ⊢
  have Hn := Lib.hid hn
  have Hv64 := Lib.hid hv64
  have hfull : (n : Int) ≤ 1048576 - (width : Int) := by omega
  generalize Lib.bitLen v = bl at *
  clear hn hm hv64 hv
  go_enter Tryz.func12, Tryz.ntmps12
  go_wp2_with fail
  have hgw : w.grownBy ((w.alloc (.cells #[.string b, .int .i64 (n : Nat)] 46)).alloc (.cells #[.string ⟨#[]⟩, .int .i64 0] 46)) none := grown_trans (World.grownBy_alloc _ _ _) (World.grownBy_alloc _ _ _)
  have hf := two_blocks w (.cells #[.string b, .int .i64 (n : Nat)] 46) (.cells #[.string ⟨#[]⟩, .int .i64 0] 46)
  generalize ((w.alloc (.cells #[.string b, .int .i64 (n : Nat)] 46)).alloc (.cells #[.string ⟨#[]⟩, .int .i64 0] 46)) = W at hgw hf ⊢
  have HF := Lib.hid (fun W' (hg : W.grownBy W' none) => And.intro (cells2 hf.1 hg (by simp)) (cells2 hf.2.1 hg (by simp)))
  have Hgw := Lib.hid hgw
  have Hsz := Lib.hid hf.2.2
  obtain ⟨⟨a1, a2, a3, a4, a5⟩, ⟨b1, b2, b3, b4, b5⟩⟩ := HF.out W (grown_trans (grown_drewN W 0 none) (grown_drewN W 0 none))
  clear hf hgw
  go_wp2_with (first
    | (go_at_call 29; refine (Hchk.out _).mono ?_; rintro e w1 ⟨rfl, hb1⟩; clear a1 a2 a3 a4 a5 b1 b2 b3 b4 b5; obtain ⟨⟨a1, a2, a3, a4, a5⟩, ⟨b1, b2, b3, b4, b5⟩⟩ := HF.out w1 (grown_of_below hb1); have q1 : ∀ O, (w1.alloc O).cell? ⟨w.heap.size, 0, none⟩ = some (.string b) := (fun O => (HF.out _ (grown_trans (grown_of_below hb1) (World.grownBy_alloc w1 O none))).1.2.1); have q2 : ∀ O, (w1.alloc O).cell? ⟨w.heap.size, 1, none⟩ = some (.int .i64 (n : Nat)) := (fun O => (HF.out _ (grown_trans (grown_of_below hb1) (World.grownBy_alloc w1 O none))).1.2.2.1); have Hg1 := Lib.hid (grown_of_below hb1); clear hb1)
    | (go_at_call 30; refine (Hwide.out _).mono ?_; rintro e w1 ⟨rfl, rfl⟩)
    | (go_at_call 31; refine (Hlen.out _).mono ?_; rintro e w1 ⟨rfl, rfl⟩)
    | fail)
  clear q1 q2 a1 a2 a3 a4 a5 b1 b2 b3 b4 b5
  have hnew := heap_alloc_new w1 (.cells #[.slice none 0 0, .int .u64 0, .int .i64 0] 83)
  have hw2 : IsWriter (w1.alloc (.cells #[.slice none 0 0, .int .u64 0, .int .i64 0] 83)) w1.heap.size w1.heap.size [] :=
    ⟨[], [], _, rfl, Nat.le_refl _, by decide, hnew, Owns.nil _ _ _⟩
  have hg12 := World.grownBy_alloc w1 (.cells #[.slice none 0 0, .int .u64 0, .int .i64 0] 83) none
  generalize (w1.alloc (.cells #[.slice none 0 0, .int .u64 0, .int .i64 0] 83)) = w2 at hw2 hg12 ⊢
  clear hnew
  have Hcopy := Lib.hid (copy_any w1.heap.size w1.heap.size [] m b w2 hw2 Hm.out (by have := Hn.out; simp; omega) hg12.size)
  rw [← Hn.out] at Hcopy
  have Hg12 := Lib.hid hg12
  clear hw2 hg12
  go_wp2_with (first
    | (go_at_call 32; refine Hcopy.out.mono ?_; rintro e w3 ⟨rfl, hc1, hc2, hc3⟩; have Hc1 := Lib.hid hc1; have Hc2 := Lib.hid hc2; clear hc1 hc2 hc3)
    | (go_at_call 33; refine (add_any w1.heap.size w1.heap.size ([] ++ m) v width w3 Hc1.out Hv64.out hw (by have := Hn.out; simp; omega) (Nat.le_trans Hg12.out.size Hc2.out.size)).mono ?_; rintro e w4 ⟨rfl, hd1, hd2, hd3⟩; obtain ⟨o, r, vv, he, hwr⟩ := hd1; have He := Lib.hid he; have Hwr := Lib.hid hwr; have Hd2 := Lib.hid hd2; clear hd2 hd3 he hwr)
    | (go_at_call 34; refine (bits_any w1.heap.size w1.heap.size o r vv w4 Hwr.out (by have h1 := congrArg List.length He.out; have := Hn.out; simp [length_unpack, length_bitsOf] at h1; omega)).mono ?_; rintro e w5 ⟨B', he1, rfl, he2⟩; have He1 := Lib.hid he1; have He2 := Lib.hid he2; clear he1 he2; obtain ⟨⟨a1, a2, a3, a4, a5⟩, ⟨b1, b2, b3, b4, b5⟩⟩ := HF.out w5 (put_chain Hg1.out Hg12.out Hc2.out Hd2.out He2.out))
    | fail)
  have hts := two_cells w5 (w.heap.size + 1) _ _ (.string ⟨B'.toArray⟩) (.int .i64 (8 * (o.length : Int) + (r.length : Int))) _ b1
  have hbl2 : Below w.heap.size w ((w5.setCell ⟨w.heap.size + 1, 0, none⟩ (.string ⟨B'.toArray⟩)).setCell ⟨w.heap.size + 1, 1, none⟩ (.int .i64 (8 * (o.length : Int) + (r.length : Int)))) := by
    have h1 := grown_trans Hgw.out (put_chain Hg1.out Hg12.out Hc2.out Hd2.out He2.out)
    exact (below_none h1 (Nat.le_refl _)).trans (below_grown hts.2 (by omega) h1.size)
  have hlen : ((8 * (o.length : Int) + (r.length : Int))) = ((n + width : Nat) : Int) := by
    have h1 := congrArg List.length He.out
    have := Hn.out
    simp [length_unpack, length_bitsOf] at h1
    omega
  have hrow := hts.1
  clear hts a1 a2 a3 a4 a5 b1 b2 b3 b4 b5
  generalize ((w5.setCell ⟨w.heap.size + 1, 0, none⟩ (.string ⟨B'.toArray⟩)).setCell ⟨w.heap.size + 1, 1, none⟩ (.int .i64 (8 * (o.length : Int) + (r.length : Int)))) = w6 at hrow hbl2 ⊢
  rw [hlen] at hrow
  refine bodyPost_ret (results_row_tmp (fn := Tryz.f12) (p := 6) (q := 7) (ty := 46) rfl _ _ (w.heap.size + 1) 46 _ _ _ rfl hrow Tryz.underlying46 rfl HS.out) rfl ?_
  refine ⟨B', ?_, rfl, hbl2⟩
  have h2 := He1.out
  rw [← He.out] at h2
  exact h2

/-! ### At, Get -/
set_option maxRecDepth 100000 in
set_option maxHeartbeats 1000000 in
theorem at_any (b : ByteArray) (n : Int) (at0 width : Nat) (w : World) (hw : width ≤ 64) (ha : at0 + width ≤ 8 * b.size) (hb : b.size ≤ 1073741824) :
    Calls Tryz.prog 35 #[.agg #[.string b, .int .i64 n], .int .i64 at0, .int .i64 width] w fun e w' => e = .returned (.int .u64 (nat (((unpack b.data.toList).drop at0).take width) : Nat)) ∧ Below w.heap.size w w' := by
  have HG := Lib.hid (fun w => get_any b n at0 width w hw ha hb)
  go_enter Tryz.func35, Tryz.ntmps35
  have hg0 := Lib.hid (World.grownBy_alloc w (.cells #[.string b, .int .i64 n] 46) none)
  go_wp2_with (first
    | (go_at_call 55; refine (HG.out _).mono ?_; rintro e w1 ⟨rfl, h1⟩)
    | fail)
  go_ret
  exact ⟨rfl, below_none (grown_trans hg0.out (grown_of_below h1)) (Nat.le_refl _)⟩

set_option maxRecDepth 100000 in
set_option maxHeartbeats 2000000 in
theorem get_good (b : ByteArray) (m : List Bool) (at0 width : Nat) (w : World) (hm : IsBits b.data.toList m) (hl : m.length ≤ 1048576) (hw : width ≤ 64) (ha : at0 + width ≤ m.length) :
    Calls Tryz.prog 13 #[.agg #[.string b, .int .i64 (m.length : Nat)], .int .i64 (at0 : Nat), .int .i64 (width : Nat)] w fun e w' => e = .returned (.tuple #[.int .u64 (nat ((m.drop at0).take width) : Nat), .int .i64 0]) ∧ Below w.heap.size w w' := by
  have hlen := hm.length
  rw [size_data] at hlen
  have Hchk := Lib.hid (fun w => check_good b m w hm (by omega))
  have Hwide := Lib.hid (fun w => wide_any width w hw)
  have Hat := Lib.hid (fun w => at_any b (m.length : Nat) at0 width w hw (by omega) (by omega))
  rw [hm.slice at0 width ha] at Hat
  obtain ⟨n, hn⟩ : ∃ n : Nat, n = m.length := ⟨_, rfl⟩
  rw [← hn] at Hchk Hat ha hl ⊢
  have h1 : (at0 : Int) ≤ (n : Int) := by omega
  have h2 : (width : Int) ≤ (n : Int) - (at0 : Int) := by omega
  clear hn hlen hm
  go_enter Tryz.func13, Tryz.ntmps13
  have hg0 := World.grownBy_alloc w (.cells #[.string b, .int .i64 (n : Nat)] 46) none
  have hf := heap_alloc_new w (.cells #[.string b, .int .i64 (n : Nat)] 46)
  have HF := Lib.hid (fun W' (hg : (w.alloc (.cells #[.string b, .int .i64 (n : Nat)] 46)).grownBy W' none) => cells2 hf hg (by simp))
  have Hg0 := Lib.hid hg0
  clear hf hg0
  go_wp2_with (first
    | (go_at_call 29; refine (Hchk.out _).mono ?_; rintro e w1 ⟨rfl, hb1⟩; obtain ⟨a1, a2, a3, a4, a5⟩ := HF.out w1 (grown_of_below hb1); have Hg1 := Lib.hid (grown_of_below hb1); clear hb1)
    | (go_at_call 30; refine (Hwide.out _).mono ?_; rintro e w1 ⟨rfl, rfl⟩)
    | (go_at_call 35; refine (Hat.out _).mono ?_; rintro e w2 ⟨rfl, hb2⟩)
    | fail)
  go_ret2
  exact ⟨rfl, below_none (grown_trans Hg0.out (grown_trans Hg1.out (grown_of_below hb2))) (Nat.le_refl _)⟩
end Go.Proofs.YtihohljhjdmamaaGreat
