/- table's reader: lengths; Read. -/
import Derived.Test.YtidmmcgnghdfdaaDoorCoded13
namespace Go.Proofs.YtidmmcgnghdfdaaDoor
open Go.RowKit SortPlain PackPlain CanonPlain BitsPlain
set_option linter.unusedVariables false

set_option maxRecDepth 100000 in
set_option maxHeartbeats 1000000 in
theorem is_nil (t : TypeId) (v : Value) (w : World) :
    Calls Tryd.prog 28 #[.nilIface, .iface t v] w fun e w' => e = .returned (.bool false) ∧ w' = w := by
  have he : ∀ W : World, (binOp .eql 71 .nilIface (.iface t v)).run Tryd.prog W = .ok (.bool false) W := fun W => by kernel_rfl
  go_enter Tryd.func28, Tryd.ntmps28
  go_wp2_with fail
  go_ret
  exact ⟨rfl, rfl⟩

theorem grown_new {w W : World} {q : Option Nat} {G : Nat} (h : w.grownBy W q) (hG : w.heap.size ≤ G) (o : Nat) (v : Value) : w.grownBy (W.setCell ⟨G, o, none⟩ v) q := by
  have h2 := grown_setCell W ⟨G, o, none⟩ v
  refine ⟨h2.os.trans h.os, h2.tape.trans h.tape, h2.output.trans h.output, Nat.le_trans h.size h2.size, fun k hk hne => ?_⟩
  have hkG : k ≠ G := by omega
  rw [h2.block k (Nat.lt_of_lt_of_le hk h.size) (by simp; exact fun e => hkG e)]
  exact h.block k hk hne

theorem ReadAt.other {w : World} {r : Nat} {b : ByteArray} {n a G o : Nat} {v : Value} (h : ReadAt w r b n a) (hG : G ≠ r) : ReadAt (w.setCell ⟨G, o, none⟩ v) r b n a := row_kept h (grown_setCell w ⟨G, o, none⟩ v) (fun e => hG (Option.some.inj e))

set_option maxRecDepth 100000 in
set_option maxHeartbeats 4000000 in
theorem tlens_any (r : Nat) (b : ByteArray) (m rest : List Bool) (X : List Nat) (w : World) (hr : ReadAt w r b m.length 0) (hm : IsBits b.data.toList m) (hml : m.length ≤ 1048576) (hok : CodeOk X) (hd : m = tabBits X ++ rest) :
    Calls Tryd.prog 27 #[.pointer (some ⟨r, 0, none⟩), .int .i64 (X.length : Nat)] w fun e w' => ∃ v, e = .returned (.tuple #[v, .nilIface]) ∧ Hid (IntsAt w' v X) ∧ Hid (ReadAt w' r b m.length (tabBits X).length) ∧ Hid (w.grownBy w' (some r)) := by
  have hrw := row_lt hr
  have hT0 : sizeTo X X.length = (tabBits X).length := by rw [tabBits_eq, tabTo_length]
  have HT1 : Hid (Calls Tryd.prog 43 #[.pointer (some ⟨r, 0, none⟩), .int .i64 4] w fun e w' => e = .returned (.tuple #[.int .i64 (X.getD 0 0 : Nat), .nilIface]) ∧ Hid (ReadAt w' r b m.length 4) ∧ Hid (w.grownBy w' (some r))) := by
    have h1 := take_any r b m 0 4 w hr hm hml (by rw [hd, List.length_append, tabBits, List.length_append, length_bitsOf]; omega) (by omega)
    have h2 := tab_head X rest (hok.le 0)
    rw [List.drop_zero, hd, h2, ← hd] at h1
    exact h1
  have HN : Hid (∀ (W : World) (i : Nat), i < X.length → ReadAt W r b m.length (sizeTo X i) → Calls Tryd.prog 44 #[.pointer (some ⟨r, 0, none⟩), .int .i64 (prv X i : Nat)] W fun e w' => e = .returned (.tuple #[.int .i64 (X.getD i 0 : Nat), .nilIface]) ∧ Hid (ReadAt w' r b m.length (sizeTo X (i + 1))) ∧ Hid (W.grownBy w' (some r))) := fun W i hi h1 => by
    obtain ⟨q, hq⟩ := tab_next X rest i hi
    rw [← hd] at hq
    exact tnext_any r b m q (sizeTo X i) (prv X i) (X.getD i 0) W h1 hm hml (prv_le X hok.le i) (hok.le i) hq
  have HC : Hid (∀ (W : World) (v : Value), IntsAt W v X → Calls Tryd.prog 41 #[v] W fun e w' => e = .returned (.int .i64 0) ∧ w' = W) := fun W v h => check_any v X W h hok
  have HLe : Hid (∀ i, X.getD i 0 ≤ 15) := hok.le
  have hXl := hok.len
  rw [← hT0]
  have hmk := fun W => run_makeInts X.length (by omega) W
  obtain ⟨n0, hn0⟩ : ∃ n0, n0 = X.length := ⟨_, rfl⟩
  have Hn0 := Lib.hid hn0
  rw [← hn0] at HN hXl hmk ⊢
  generalize m.length = n at HT1 HN ⊢
  clear hr hm hml hok hd hT0 hn0
  have hni : (n0 : Int) ≤ 512 := by omega
  have Hx0 := Lib.hid (prv_zero X)
  generalize X.getD 0 0 = x0 at HT1 Hx0
  go_enter Tryd.func27, Tryd.ntmps27
  go_wp2_with (first
    | (go_at_call 43; (with_reducible refine HT1.out.mono ?_); rintro e w1 ⟨rfl, hr1, hg1⟩)
    | fail)
  generalize hW : w1.alloc _ = w2
  have h0 : Hid (w2.heap[w1.heap.size]? = some (.cells (crow n0 (fun j => if j < 0 then X.getD j 0 else 0)) 3 (0, 0))) := by
    show _ = _
    rw [← hW, heap_alloc_new, crow_zero]
    simp
  have hg2 : Hid (w.grownBy w2 (some r)) := by
    show w.grownBy w2 _
    rw [← hW]
    exact grown_trans hg1.out (World.grownBy_alloc _ _ _)
  have hr2 : Hid (ReadAt w2 r b n 4) := by
    show ReadAt _ _ _ _ _
    rw [← hW]
    exact hr1.out.kept (World.grownBy_alloc _ _ _)
  obtain ⟨G, hG⟩ : ∃ G, G = w1.heap.size := ⟨_, rfl⟩
  have HG : Hid (w.heap.size ≤ G) := by show _ ≤ _; rw [hG]; exact hg1.out.size
  have HrG : Hid (G ≠ r) := by show _ ≠ _; have := HG.out; omega
  rw [← hG] at h0 ⊢
  clear hG hr1 hg1 hW hmk
  go_loopw [6, 24] (fun nv iv wr => ∃ (i c : Nat), iv = .int .i64 (i : Nat) ∧ i ≤ n0 ∧ nv = .int .i64 (c : Nat) ∧ Hid (c = prv X i) ∧ Hid (wr.heap[G]? = some (.cells (crow n0 (fun j => if j < i then X.getD j 0 else 0)) 3 (0, 0))) ∧ Hid (ReadAt wr r b n (sizeTo X i)) ∧ Hid (w.grownBy wr (some r))) (fun _ iv _ => n0 - (intOf iv).toNat)
  case atStart => exact ⟨0, x0, rfl, Nat.zero_le _, rfl, Hx0.out.symm, h0, hr2, hg2⟩
  case round =>
    clear h0 hr2 hg2
    obtain ⟨i, c, rfl, hi, rfl, Hc, Hrow, Hr, Hg⟩ := hrel
    by_cases hlt : i < n0
    · have HN1 := Lib.hid (HN.out wr i hlt Hr.out)
      rw [← Hc.out] at HN1
      have Hl0 : Hid (i = 0 → X.getD i 0 = c) := fun h => by rw [Hc.out, h]; rfl
      have Hps := Lib.hid (prv_succ X i)
      obtain ⟨l, hl⟩ : ∃ l, l = X.getD i 0 := ⟨_, rfl⟩
      rw [← hl] at HN1 Hl0 Hps
      have Hl := Lib.hid hl
      have hii : (i : Int) < (n0 : Int) := by omega
      have HF : Hid (∀ W, wr.grownBy W (some r) → W.heap[G]? = some (.cells (crow n0 (fun j => if j < i then X.getD j 0 else 0)) 3 (0, 0)) ∧ W.cell? ⟨G, i, none⟩ = some (.int .i64 0) ∧ W.frozen? ⟨G, i, none⟩ = false) := fun W hW => by
        have h1 := row_kept Hrow.out hW (fun e => HrG.out (Option.some.inj e).symm)
        refine ⟨h1, ?_, row_free h1 i⟩
        rw [row_cell h1 i _ (crow_get n0 _ i hlt)]
        simp
      clear hl
      rcases Nat.eq_zero_or_pos i with h0 | h0
      · have hlc := Hl0.out h0
        subst hlc
        subst h0
        go_wp2_with fail
        with_reducible refine HN1.out.mono ?_
        rintro e w3 ⟨rfl, hr3, hg3⟩
        obtain ⟨e0, e1, e2⟩ := HF.out w3 hg3.out
        have E0 := Lib.hid e0
        clear e0
        simp only []
        go_wp2_with fail
        refine ⟨⟨1, l, rfl, by omega, rfl, Hps.out.symm, ?_, hr3.out.other HrG.out, grown_new (grown_trans Hg.out hg3.out) HG.out _ _⟩, by simp [intOf]; omega⟩
        show _ = _
        rw [heap_setCell_same _ G 0 _ _ _ E0.out]
        congr 2
        refine crow_set n0 _ _ 0 hlt l (by simp [Hl.out]) (fun j hj => ?_)
        rw [if_neg (by omega), if_neg (by omega)]
      · have hi0 : ((i : Int) == 0) = false := by simp; omega
        go_wp2_with fail
        with_reducible refine HN1.out.mono ?_
        rintro e w3 ⟨rfl, hr3, hg3⟩
        obtain ⟨e0, e1, e2⟩ := HF.out w3 hg3.out
        have E0 := Lib.hid e0
        clear e0
        simp only []
        go_wp2_with fail
        refine ⟨⟨i + 1, l, by rw [Int.natCast_add]; rfl, by omega, rfl, Hps.out.symm, ?_, hr3.out.other HrG.out, grown_new (grown_trans Hg.out hg3.out) HG.out _ _⟩, by simp [intOf]; omega⟩
        show _ = _
        rw [heap_setCell_same _ G i _ _ _ E0.out]
        congr 2
        refine crow_set n0 _ _ i hlt l (by simp [Hl.out]) (fun j hj => ?_)
        by_cases h1 : j < i
        · rw [if_pos h1, if_pos (by omega)]
        · rw [if_neg h1, if_neg (by omega)]
    · obtain rfl : i = n0 := by omega
      have hiX : Hid (IntsAt wr (.slice (some ⟨G, 0, none⟩) i i) X) := by
        show IntsAt _ _ _
        have h1 := IntsAt.of_crow Hrow.out (by omega)
        have h2 : (List.range i).map (fun j => if j < i then X.getD j 0 else 0) = X := by
          apply List.ext_getElem?
          intro j
          rw [Hn0.out]
          rcases Nat.lt_or_ge j X.length with h | h
          · simp [h, List.getD]
          · simp [h]
        rw [h2] at h1
        exact h1
      have HC1 := Lib.hid (HC.out wr _ hiX.out)
      go_wp2_with fail
      with_reducible refine HC1.out.mono ?_
      rintro e w3 ⟨rfl, hw3⟩
      obtain rfl : wr = w3 := hw3.symm
      simp only []
      go_wp2_with fail
      go_ret2
      exact ⟨_, rfl, hiX, Hr, Hg⟩
end Go.Proofs.YtidmmcgnghdfdaaDoor
