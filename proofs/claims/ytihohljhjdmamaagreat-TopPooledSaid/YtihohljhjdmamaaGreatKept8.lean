/- A new extent. -/
import Derived.Test.YtihohljhjdmamaaGreatKept7
import Derived.Test.YtihohljhjdmamaaGreatShelf
namespace Go.Proofs.YtihohljhjdmamaaGreat
open Go.RowKit
set_option linter.unusedVariables false

set_option maxRecDepth 100000 in
set_option maxHeartbeats 2000000 in
theorem room_none {B b S : Nat} {nm : ByteArray} {ws : List (Nat × ByteArray)} (w : World) (h : DevAt w B b S nm none ws) (hS : S ≤ 16384) :
    Calls Tryz.prog 59 #[.pointer (some ⟨b, 0, none⟩)] w fun e w' => e = .returned (.int .i64 (S : Nat)) ∧ w' = w := by
  obtain ⟨ae, ce, aw, cw, h1, _⟩ := h.at_
  obtain ⟨⟨r0, r1, r2, r3, r4⟩, _⟩ := row5 h1
  rw [show exN none = 0 from rfl] at r1
  clear h1 h
  go_enter Tryz.func59, Tryz.ntmps59
  go_wp2
  go_loop [3, 17] (fun sv iv => sv = .int .i64 (S : Nat) ∧ iv = .int .i64 0) (fun _ iv => 1 - (intOf iv).toNat)
  case atStart => exact ⟨rfl, rfl⟩
  case round =>
    obtain ⟨rfl, rfl⟩ := hrel
    go_wp2_with fail
    go_ret
    exact ⟨rfl, rfl⟩
set_option maxRecDepth 100000 in
set_option maxHeartbeats 2000000 in
theorem insert_none (B H cu : Nat) (ae : Option Addr) (ce : Nat) (nm D : ByteArray) (w : World) (ho : w.ownsRow B 62 2 (.slice ae 0 ce) 0 []) (hB : B ≤ w.heap.size) (hr : w.heap[H]? = some (.cells #[.string nm, .string D] 62 (0, 0))) :
    Calls Tryz.prog 60 #[.slice ae 0 ce, .int .i64 0, .slice (some ⟨H, 0, none⟩) 1 cu] w fun e w' => ∃ a' c', e = .returned (.slice a' 1 c') ∧ w'.ownsRow B 62 2 (.slice a' 1 c') 1 [.string nm, .string D] ∧ Hid (w.grownBy w' (Value.ownBlock (.slice ae 0 ce))) := by
  obtain ⟨i, hi, hz0, hz1, hz2⟩ := info_parts extInfo
  have HC : Hid (∀ j u, [Value.string nm, Value.string D][j]? = some u → w.cell? ((⟨H, 0, none⟩ : Addr).add j) = some u) := fun j u hj => by
    rw [add_plain, Nat.zero_add]
    match j, hj with
    | 0, hj => exact row_cell hr 0 u hj
    | 1, hj => exact row_cell hr 1 u hj
  have H1 : Hid (∀ u ∈ [Value.string nm, Value.string D], u.oneCell' = true) := fun u hu => by
    simp at hu; rcases hu with rfl | rfl <;> rfl
  have HO := Lib.hid ho
  have HB := Lib.hid hB
  have hcap : (0 : Int) ≤ (ce : Int) := by omega
  clear ho hB hr
  cases ae with
  | none =>
    have hce : ce = 0 := by
      rcases HO.out.2 with ⟨h, _⟩ | ⟨g, cap, cur, h, _⟩
      · injection h
      · cases h
    subst hce
    go_enter Tryz.func60, Tryz.ntmps60
    go_wp2_with (first
      | (at_builtin; refine wpList_append_own _ rfl (.tmp 23) (.tmp 24) 23 rfl B 62 i _ 2 32 Tryz.underlying23 hi hz0 hz1 hz2 rfl (by decide) _ 0 [] rfl HO.out ⟨H, 0, none⟩ 1 cu [.string nm, .string D] rfl rfl HC.out H1.out (by unfold maxLen; omega) (by omega) HB.out ?_; intro v2 w2 ho2 hg2 _; have HO2 := Lib.hid ho2; have HG2 := Lib.hid hg2; clear ho2 hg2)
      | fail)
    go_ret
    obtain ⟨a2, c2, rfl, _⟩ := RowAt.of_owns HO2.out
    exact ⟨_, _, rfl, HO2.out, HG2.out⟩
  | some ad =>
    go_enter Tryz.func60, Tryz.ntmps60
    go_wp2_with (first
      | (at_builtin; refine wpList_append_own _ rfl (.tmp 23) (.tmp 24) 23 rfl B 62 i _ 2 32 Tryz.underlying23 hi hz0 hz1 hz2 rfl (by decide) _ 0 [] rfl HO.out ⟨H, 0, none⟩ 1 cu [.string nm, .string D] rfl rfl HC.out H1.out (by unfold maxLen; omega) (by omega) HB.out ?_; intro v2 w2 ho2 hg2 _; have HO2 := Lib.hid ho2; have HG2 := Lib.hid hg2; clear ho2 hg2)
      | fail)
    go_ret
    obtain ⟨a2, c2, rfl, _⟩ := RowAt.of_owns HO2.out
    exact ⟨_, _, rfl, HO2.out, HG2.out⟩
theorem repeat_zeros (k : Nat) (hk : k ≤ 1048576) (w : World) :
    Calls Tryz.prog 61 #[.string ⟨#[0]⟩, .int .i64 (k : Nat)] w fun e w' => ∃ D : ByteArray, D.size = k ∧ e = .returned (.string D) ∧ Hid (w.grownBy w' none) := by
  refine (Tryz.strings_Repeat ⟨#[0]⟩ k w (by omega) (by show 1 * k ≤ _; omega)).mono ?_
  rintro e w' ⟨h1, h2⟩
  refine ⟨_, ?_, h1, grown_bel h2 none⟩
  show (Lib.repeatL [0] k).toArray.size = k
  rw [List.size_toArray, Lib.repeatL_length]; simp
theorem devnew_fin {B b S : Nat} {nm D : ByteArray} {ws : List (Nat × ByteArray)} {ae aw a4 : Option Addr} {ce cw c4 : Nat} {w Wa w4 : World} (hBb : B ≤ b) (hBw : B ≤ w.heap.size)
    (h1 : w.heap[b]? = some (.cells #[.int .i64 (S : Nat), .slice ae 0 ce, .slice aw ws.length cw, .int .i64 (-1), .bool false] 59 (0, 0)))
    (h2 : w.ownsRow B 62 2 (.slice ae 0 ce) 0 []) (h3 : w.ownsRow B 98 3 (.slice aw ws.length cw) ws.length (wsC nm ws))
    (hg : w.grownBy Wa none) (hg4 : Wa.grownBy w4 (Value.ownBlock (.slice ae 0 ce))) (ho4 : w4.ownsRow B 62 2 (.slice a4 1 c4) 1 [.string nm, .string D]) :
    DevAt (w4.setCell ⟨b, 1, none⟩ (.slice a4 1 c4)) B b S nm (some D) ws ∧ Below B w (w4.setCell ⟨b, 1, none⟩ (.slice a4 1 c4)) := by
  have r1 := row_kept h1 hg (by simp)
  have o2 := own_keep h2 hg (Nat.le_refl _)
  have o3 := own_keep h3 hg (Nat.le_refl _)
  have r4 := row_kept r1 hg4 (own_ne_row o2 r1 (by decide))
  have o4 := World.ownsRow.kept o3 hg4 (own_apart o3 o2 (by decide))
  have gs := grown_setCell w4 ⟨b, 1, none⟩ (.slice a4 1 c4)
  refine ⟨⟨hBb, a4, c4, aw, cw, heap_setCell_same w4 b 1 _ _ _ r4, World.ownsRow.kept ho4 gs (.inr (own_ne_row ho4 r4 (by decide))), World.ownsRow.kept o4 gs (.inr (own_ne_row o4 r4 (by decide)))⟩, ?_⟩
  exact ((bel_grown hg hBw).grown hg4 (Nat.le_trans hBw hg.size) (fun k hk => (World.ownsRow.lt o2 k hk).1)).grown gs (Nat.le_trans (Nat.le_trans hBw hg.size) hg4.size) (fun k hk => by injection hk with hk; simp only at hk; omega)
set_option maxRecDepth 100000 in
set_option maxHeartbeats 1000000 in
theorem devnew_ok {B b S : Nat} {nm : ByteArray} {ws : List (Nat × ByteArray)} (n : Nat) (hn : 1 ≤ n) (hnS : n ≤ S) (hS : S ≤ 16384) (hnm : isNm nm = true) (w : World) (h : DevAt w B b S nm none ws) (hBw : B ≤ w.heap.size) :
    Calls Tryz.prog 37 #[.pointer (some ⟨b, 0, none⟩), .string nm, .int .i64 (n : Nat)] w fun e w' => ∃ D : ByteArray, D.size = 64 * n ∧ e = .returned (.int .i64 0) ∧ DevAt w' B b S nm (some D) ws ∧ Below B w w' := by
  have HRm := Lib.hid (fun W (hW : w.grownBy W none) => room_none W (h.grown hW) hS)
  have hlow := h.low
  obtain ⟨ae, ce, aw, cw, h1, h2, h3⟩ := h.at_
  rw [show exN none = 0 from rfl, show exC nm none = [] from rfl] at h2
  rw [show exN none = 0 from rfl] at h1
  have HF := Lib.hid (fun w => find_none nm (.slice ae 0 ce) ⟨ae, ce, rfl⟩ w)
  have HNm := Lib.hid (fun g cap w hc => by have h := named_any g cap nm w hc; rw [hnm] at h; exact h)
  have HRp := Lib.hid (fun w => by have h := repeat_zeros (64 * n) (by omega) w; rw [show ((64 * n : Nat) : Int) = (n : Int) * 64 by omega] at h; exact h)
  have HI := Lib.hid (fun (W : World) H cu D (hW : w.grownBy W none) hr => insert_none B H cu ae ce nm D W (own_keep h2 hW (Nat.le_refl _)) (Nat.le_trans hBw hW.size) hr)
  have HR := Lib.hid (fun W (hW : w.grownBy W none) => row_kept h1 hW (by simp))
  have H2 := Lib.hid h2
  have H3 := Lib.hid h3
  obtain ⟨⟨r0, r1, r2, r3, r4⟩, _⟩ := row5 h1
  have q1 := heap_alloc_new w (.cells #[.string nm] 9)
  have g1 := World.grownBy_alloc w (.cells #[.string nm] 9) none
  have hni : 1 ≤ (n : Int) := by omega
  have hnSi : (n : Int) ≤ (S : Int) := by omega
  have hSi : (S : Int) ≤ 16384 := by omega
  clear h h1 h2 h3 hnm
  go_enter Tryz.func37, Tryz.ntmps37
  go_wp2_with fail
  refine (HF.out _).mono ?_
  rintro e w1 ⟨rfl, hw1⟩
  obtain rfl : w = w1 := hw1.symm
  simp only []
  go_wp2_with fail
  generalize w.alloc (.cells #[.string nm] 9) = W1 at *
  refine (HNm.out _ _ _ (row_cell q1 0 _ rfl)).mono ?_
  rintro e w2 ⟨rfl, hw2⟩
  obtain rfl : W1 = w2 := hw2.symm
  simp only []
  clear r0 r1 r2 r3 r4 q1
  go_wp2_with fail
  refine (HRm.out _ g1).mono ?_
  rintro e w3 ⟨rfl, hw3⟩
  obtain rfl : W1 = w3 := hw3.symm
  simp only []
  obtain ⟨⟨t0, t1, t2, t3, t4⟩, _, f1, _⟩ := row5 (HR.out _ g1)
  go_wp2_with fail
  have HAl := Lib.hid (fun (W : World) (D : ByteArray) => (⟨World.grownBy_alloc W (.cells #[.string nm, .string D] 62) none, heap_alloc_new W (.cells #[.string nm, .string D] 62)⟩ : W.grownBy (W.alloc (.cells #[.string nm, .string D] 62)) none ∧ _))
  have hwm : IntKind.i64.wrap ((n : Int) * 64) = (n : Int) * 64 := IntWalk.i64_in _ (by omega)
  go_region_with (first
    | (go_at_call 61; refine (HRp.out _).mono ?_; rintro e w3 ⟨D, hD, rfl, hg3⟩; have g3 : W1.grownBy w3 none := (by first | with_reducible exact hg3.out | with_reducible exact grown_trans (grown_drew W1 none) hg3.out); obtain ⟨⟨y0, y1, y2, y3, y4⟩, _, z1, _⟩ := row5 (HR.out w3 (grown_trans g1 g3)); obtain ⟨⟨x0, x1, x2, x3, x4⟩, _, m1, _⟩ := row5 (HR.out _ (grown_trans (grown_trans g1 g3) (HAl.out w3 D).1)); have HD := Lib.hid hD; clear hD hg3)
    | (go_at_call 60; refine (HI.out _ _ _ D (grown_trans (grown_trans g1 g3) (HAl.out w3 D).1) (HAl.out w3 D).2).mono ?_; rintro e w4 ⟨a4, c4, rfl, ho4, hg4⟩; have HO4 := Lib.hid ho4; have HG4 := Lib.hid hg4; have HFin := Lib.hid (devnew_fin hlow hBw (HR.out w (grown_self _ _)) H2.out H3.out (grown_trans (grown_trans g1 g3) (HAl.out w3 D).1) hg4.out ho4); have hr4 := row5 (row_kept (HR.out _ (grown_trans (grown_trans g1 g3) (HAl.out w3 D).1)) hg4.out (own_ne_row H2.out (HR.out w (grown_self _ _)) (by decide))); obtain ⟨⟨d0, d1, d2, d3, d4⟩, _, k1, _⟩ := hr4; clear ho4 hg4))
  all_goals
    clear hwm
    go_wp2_with fail
    go_ret
    exact ⟨D, by rw [HD.out], rfl, HFin.out.1, HFin.out.2⟩
end Go.Proofs.YtihohljhjdmamaaGreat
