/- pool: take. -/
import Derived.Test.YtihohljhjdmamaaGreatPool13
namespace Go.Proofs.YtihohljhjdmamaaGreat
open Go.RowKit
set_option linter.unusedVariables false

/-- but for arenas and frames all blocks are as they were -/
def Kept2 (w w' : World) : Prop := ∀ (k : Nat) (cs : Array Value) (t : TypeId) (fz : Nat × Nat), w.heap[k]? = some (Obj.cells cs t fz) → t ≠ 100 → t ≠ 106 → w'.heap[k]? = some (Obj.cells cs t fz)
theorem Kept2.of_grown {w w' : World} (hg : w.grownBy w' none) : Kept2 w w' := fun k cs t fz h _ _ => row_kept h hg (by simp)
theorem Kept2.trans {a b c : World} (h1 : Kept2 a b) (h2 : Kept2 b c) : Kept2 a c := fun k cs t fz h x y => h2 k cs t fz (h1 k cs t fz h x y) x y
theorem Kept2.write {w w' : World} {r : Nat} {cs0 : Array Value} {t0 : TypeId} {fz0 : Nat × Nat} (hr : w.heap[r]? = some (.cells cs0 t0 fz0)) (ht : t0 = 100 ∨ t0 = 106) (hg : w.grownBy w' (some r)) : Kept2 w w' := fun k cs t fz h h1 h2 => row_kept h hg (fun e => by
  injection e with e
  rw [← e, hr] at h
  injection h with h
  injection h with _ h
  rcases ht with ht | ht
  · exact h1 (h.symm.trans ht)
  · exact h2 (h.symm.trans ht))
theorem grown7 (w : World) (g j : Nat) (x0 x1 x2 x3 x4 x5 x6 : Value) : w.grownBy (((((((w.setCell ⟨g, j, none⟩ x0).setCell ⟨g, j + 1, none⟩ x1).setCell ⟨g, j + 2, none⟩ x2).setCell ⟨g, j + 3, none⟩ x3).setCell ⟨g, j + 4, none⟩ x4).setCell ⟨g, j + 5, none⟩ x5).setCell ⟨g, j + 6, none⟩ x6) (some g) :=
  grown_trans (grown_trans (grown_trans (grown_trans (grown_trans (grown_trans (grown_setCell w ⟨g, j, none⟩ x0) (grown_setCell _ ⟨g, j + 1, none⟩ x1)) (grown_setCell _ ⟨g, j + 2, none⟩ x2)) (grown_setCell _ ⟨g, j + 3, none⟩ x3)) (grown_setCell _ ⟨g, j + 4, none⟩ x4)) (grown_setCell _ ⟨g, j + 5, none⟩ x5)) (grown_setCell _ ⟨g, j + 6, none⟩ x6)

set_option maxRecDepth 100000 in
set_option maxHeartbeats 8000000 in
theorem take_frame {B a b S T R : Nat} {nm D : ByteArray} {fs : List (Nat × Nat)} (hn : isNm nm = true) (hok : ∀ f ∈ fs, FrOk f ∧ f.2 = 0) (h1 : 1 ≤ fs.length) (hl : fs.length ≤ 256) (w : World) (hB : B ≤ w.heap.size) (h : ArAt w B a b S nm D fs T R) :
    Calls Tryz.prog 54 #[.pointer (some ⟨a, 0, none⟩)] w fun e w' => ∃ k : Nat, k < fs.length ∧ e = .returned (.tuple #[.int .i64 (k : Nat), .int .i64 0]) ∧ Hid (ArAt w' B a b S nm D (fs.set k (0, 0)) T R) ∧ Hid (Below B w w') ∧ Hid (Kept2 w w') := by
  have HBu := Lib.hid (fun W (hW : w.grownBy W none) => busy_any hn (fun f hf => (hok f hf).1) hl W (h.grown hW))
  have HFr : Hid (∀ (W : World) (f : Nat × Nat), f ∈ fs → Calls Tryz.prog 74 #[frV nm D f] W fun e w' => e = .returned (.bool (f.1 == 0)) ∧ Hid (W.grownBy w' none)) := fun W f hf => free_any f (hok f hf).1 hn W
  have HId : Hid (∀ (W : World) (f : Nat × Nat), f ∈ fs → f.1 ≠ 0 → Calls Tryz.prog 76 #[frV nm D f] W fun e w' => e = .returned (.bool true) ∧ Hid (W.grownBy w' none)) := fun W f hf h0 => idle_any f hn h0 (hok f hf).2 W
  have HZ : Hid (∀ (k : Nat) (f : Nat × Nat), fs[k]? = some f → f.1 = 0 → fs.set k (0, 0) = fs) := fun k f hf h0 => by
    have hk := (List.getElem?_eq_some_iff.1 hf)
    have h2 := (hok f (List.mem_of_getElem? hf)).1 h0
    have h3 : f = (0, 0) := Prod.ext h0 h2
    rw [← h3, ← hk.2, List.set_getElem_self]
  obtain ⟨g, cf, pk, hx⟩ := h.x h1 hB
  have HX := Lib.hid hx
  have HC := Lib.hid (fun W (hW : w.grownBy W none) => (hx.grow hW).cells)
  have HG : Hid (∀ W, w.grownBy W none → ∀ i, i < fs.length → ∃ f, fs[i]? = some f ∧ f ∈ fs ∧ FrAt W nm D g i f) := fun W hW i hi => ⟨fs[i], List.getElem?_eq_getElem hi, List.getElem_mem hi, (hx.grow hW).frame i _ (List.getElem?_eq_getElem hi)⟩
  obtain ⟨c0, c1, c2, c3, c4, c5⟩ := HC.out w (grown_self _ _)
  have Hfin : Hid (∀ (W : World) (k : Nat), w.grownBy W none → k < fs.length → ArAt (((((((W.setCell ⟨g, k * 7, none⟩ (.string ⟨#[]⟩)).setCell ⟨g, k * 7 + 1, none⟩ (.int .i64 0)).setCell ⟨g, k * 7 + 2, none⟩ (.string ⟨#[]⟩)).setCell ⟨g, k * 7 + 3, none⟩ (.int .i64 0)).setCell ⟨g, k * 7 + 4, none⟩ (.bool false)).setCell ⟨g, k * 7 + 5, none⟩ (.int .u64 0)).setCell ⟨g, k * 7 + 6, none⟩ (.bool false)) B a b S nm D (fs.set k (0, 0)) T R ∧ Below B w (((((((W.setCell ⟨g, k * 7, none⟩ (.string ⟨#[]⟩)).setCell ⟨g, k * 7 + 1, none⟩ (.int .i64 0)).setCell ⟨g, k * 7 + 2, none⟩ (.string ⟨#[]⟩)).setCell ⟨g, k * 7 + 3, none⟩ (.int .i64 0)).setCell ⟨g, k * 7 + 4, none⟩ (.bool false)).setCell ⟨g, k * 7 + 5, none⟩ (.int .u64 0)).setCell ⟨g, k * 7 + 6, none⟩ (.bool false)) ∧ Kept2 w (((((((W.setCell ⟨g, k * 7, none⟩ (.string ⟨#[]⟩)).setCell ⟨g, k * 7 + 1, none⟩ (.int .i64 0)).setCell ⟨g, k * 7 + 2, none⟩ (.string ⟨#[]⟩)).setCell ⟨g, k * 7 + 3, none⟩ (.int .i64 0)).setCell ⟨g, k * 7 + 4, none⟩ (.bool false)).setCell ⟨g, k * 7 + 5, none⟩ (.int .u64 0)).setCell ⟨g, k * 7 + 6, none⟩ (.bool false))) := fun W k hW hk => by
    obtain ⟨cur, hcur⟩ := (hx.grow hW).frow
    obtain ⟨p1, p2⟩ := (hx.grow hW).put7 k (.string ⟨#[]⟩) (.int .i64 0) (.string ⟨#[]⟩) (.int .i64 0) (.bool false) (.int .u64 0) (.bool false)
    exact ⟨p1.at_ (by rw [List.length_set]) (frsC_put nm D fs k (0, 0) hk _ _ _ _ _ _ _ rfl), (bel_grown hW hB).trans p2, (Kept2.of_grown hW).trans (Kept2.write hcur (.inr rfl) (grown7 W g (k * 7) _ _ _ _ _ _ _))⟩
  have Hpk : Hid (∀ (W : World) (k : Nat) (q : Int), w.grownBy W none → fs.set k (0, 0) = fs → ArAt (W.setCell ⟨a, 5, none⟩ (.int .i64 q)) B a b S nm D (fs.set k (0, 0)) T R ∧ Below B w (W.setCell ⟨a, 5, none⟩ (.int .i64 q)) ∧ Kept2 w (W.setCell ⟨a, 5, none⟩ (.int .i64 q))) := fun W k q hW hs => by
    obtain ⟨p1, p2⟩ := (hx.grow hW).putA (T' := (T : Nat)) (R' := (R : Nat)) (pk' := q) 5 (.int .i64 q) rfl
    rw [hs]
    exact ⟨p1.at_ rfl rfl, (bel_grown hW hB).trans p2, (Kept2.of_grown hW).trans (Kept2.write (hx.grow hW).row (.inl rfl) (grown_setCell W ⟨a, 5, none⟩ _))⟩
  have HA5 : Hid (∀ W, w.grownBy W none → ∀ i, W.frozen? ⟨a, i, none⟩ = false) := fun W hW i => (hx.grow hW).afree i
  have HFf : Hid (∀ W, w.grownBy W none → ∀ i, W.frozen? ⟨g, i, none⟩ = false) := fun W hW i => (hx.grow hW).ffree i
  obtain ⟨n, hnn⟩ : ∃ n, n = fs.length := ⟨_, rfl⟩
  rw [← hnn] at HG HC Hfin h1 hl c1 ⊢
  have hni : (n : Int) ≤ 256 := by omega
  have hn1 : (1 : Int) ≤ (n : Int) := by omega
  clear hnn hx h hok c0 c2 c3 c4 c5
  go_enter Tryz.func54, Tryz.ntmps54
  go_wp2_with fail
  clear c1
  go_loopw [4, 13] (fun bv iv wr => ∃ (i : Nat) (β : Int), iv = .int .i64 (i : Nat) ∧ i ≤ n ∧ bv = .int .i64 β ∧ Hid ((i = 0 ∧ β = -1) ∨ (∃ k : Nat, k < i ∧ β = (k : Int))) ∧ Hid (w.grownBy wr none)) (fun _ iv _ => n - (intOf iv).toNat)
  case atStart => exact ⟨0, -1, rfl, Nat.zero_le _, rfl, .inl ⟨rfl, rfl⟩, grown_self _ _⟩
  case round =>
    obtain ⟨i, β, rfl, hi, rfl, Hβ, hg⟩ := hrel
    by_cases hlt : i < n
    · obtain ⟨f, hf, hmem, c0, c1, c2, c3, c4, c5, c6⟩ := HG.out wr hg.out i hlt
      have hii : (i : Int) < (n : Int) := by omega
      have HF1 := Lib.hid (HFr.out (wr.alloc (.cells (frC nm D f).toArray 106)) f hmem)
      have HI1 := Lib.hid (fun W h0 => HId.out W f hmem h0)
      have qf : Hid (FrRow (wr.alloc (.cells (frC nm D f).toArray 106)) nm D wr.heap.size f) := heap_alloc_new wr _
      have gf : Hid (wr.grownBy (wr.alloc (.cells (frC nm D f).toArray 106)) none) := World.grownBy_alloc wr _ none
      have HZ1 := Lib.hid (fun h0 => HZ.out i f hf h0)
      unfold frV heldF at HF1 HI1
      unfold frC at HF1 qf gf
      clear hf hmem
      go_wp2_with fail
      (with_reducible refine HF1.out.mono ?_)
      rintro e w2 ⟨rfl, hg2⟩
      clear c0 c1 c2 c3 c4 c5 c6
      generalize wr.alloc (.cells (List.toArray [.string (nmO nm f), .int .i64 (f.1 : Nat), .string (datO D f), .int .i64 (f.2 : Nat), .bool false, .int .u64 (f.1 : Nat), .bool false]) 106) = w1 at qf gf hg2
      generalize wr.heap.size = bf at qf ⊢
      have Hg2 : Hid (w.grownBy w2 none) := grown_trans hg.out (grown_trans gf.out hg2.out)
      by_cases hz : f.1 = 0
      · have hzb : (f.1 == 0) = true := by simpa using hz
        have HZ2 := Lib.hid (HZ1.out hz)
        rw [hzb]
        clear hzb hz
        simp only []
        obtain ⟨a0, a1, a2, a3, a4, a5⟩ := HC.out w2 Hg2.out
        go_wp2_with fail
        go_region_with (first
          | (go_at_call 75; refine (HBu.out _ (by first | exact grown_trans Hg2.out (grown_drew _ _) | exact Hg2.out)).mono ?_; rintro e w4 ⟨kb, hkb, rfl, hg4⟩; have Hg4 : Hid (w.grownBy w4 none) := (by first | exact grown_trans Hg2.out (grown_trans (grown_drew _ _) hg4.out) | exact grown_trans Hg2.out hg4.out); obtain ⟨b0, b1, b2, b3, b4, b5⟩ := HC.out w4 Hg4.out; have hfr := HA5.out w4 Hg4.out 5; have hwk : IntKind.i64.wrap ((kb : Int) + 1) = (kb : Int) + 1 := IntWalk.i64_in _ (by omega))
          | fail)
        all_goals
          have hfin := Lib.hid (Hpk.out w4 i (max pk ((kb : Int) + 1)) Hg4.out HZ2.out)
          clear b0 b1 b2 b3 b4 b5 hfr hwk
          generalize w4.setCell ⟨a, 5, none⟩ (.int .i64 (max pk ((kb : Int) + 1))) = w5 at hfin ⊢
          go_wp2_with fail
          go_ret2
          exact ⟨i, hlt, rfl, hfin.out.1, hfin.out.2.1, hfin.out.2.2⟩
      · have hzb : (f.1 == 0) = false := by simpa using hz
        have HI2 := Lib.hid (fun W => HI1.out W hz)
        rw [hzb]
        clear hzb hz
        obtain ⟨d0, d1, d2, d3, d4, d5, d6⟩ := (qf.out.grown hg2.out).cells
        simp only []
        go_wp2_with fail
        (with_reducible refine (HI2.out _).mono ?_)
        rintro e w3 ⟨rfl, hg3⟩
        clear d0 d1 d2 d3 d4 d5 d6
        have Hg3 : Hid (w.grownBy w3 none) := grown_trans Hg2.out hg3.out
        simp only []
        go_wp2_with fail
        obtain ⟨a0, a1, a2, a3, a4, a5⟩ := HC.out w3 Hg3.out
        obtain ⟨d0, d1, d2, d3, d4, d5, d6⟩ := ((qf.out.grown hg2.out).grown hg3.out).cells
        rcases Hβ.out with ⟨h0, rfl⟩ | ⟨kβ, hkβ, rfl⟩
        · clear h0
          go_quiet (fail)
          clear a0 a1 a2 a3 a4 a5 d0 d1 d2 d3 d4 d5 d6
          go_wp2_with fail
          exact ⟨⟨i + 1, i, by rw [Int.natCast_add]; rfl, by omega, rfl, .inr ⟨i, by omega, rfl⟩, grown_trans Hg3.out (grown_drewN _ _ _)⟩, by simp [intOf]; omega⟩
        · obtain ⟨fk, hfk, _, e0, e1, e2, e3, e4, e5, e6⟩ := HG.out w3 Hg3.out kβ (by omega)
          have hd1 : decide ((kβ : Int) < 0) = false := by simp
          have hki : (kβ : Int) < (n : Int) := by omega
          clear hfk e0 e1 e2 e3 e4 e6
          by_cases ht : f.1 < fk.1
          · have hti : decide (f.1 < fk.1) = true := by simpa using ht
            have htj : (f.1 : Int) < (fk.1 : Int) := by omega
            go_quiet (fail)
            clear a0 a1 a2 a3 a4 a5 d0 d1 d2 d3 d4 d5 d6 e5
            go_wp2_with fail
            exact ⟨⟨i + 1, i, by rw [Int.natCast_add]; rfl, by omega, rfl, .inr ⟨i, by omega, rfl⟩, grown_trans Hg3.out (grown_drewN _ _ _)⟩, by simp [intOf]; omega⟩
          · have hti : decide (f.1 < fk.1) = false := by simpa using ht
            have htj : ¬ (f.1 : Int) < (fk.1 : Int) := by omega
            go_quiet (fail)
            clear a0 a1 a2 a3 a4 a5 d0 d1 d2 d3 d4 d5 d6 e5
            go_wp2_with fail
            exact ⟨⟨i + 1, kβ, by rw [Int.natCast_add]; rfl, by omega, rfl, .inr ⟨kβ, by omega, rfl⟩, grown_trans Hg3.out (grown_drewN _ _ _)⟩, by simp [intOf]; omega⟩
    · obtain rfl : i = n := by omega
      rcases Hβ.out with ⟨h0, _⟩ | ⟨kβ, hkβ, rfl⟩
      · omega
      · obtain ⟨fk, hfk, _, e0, e1, e2, e3, e4, e5, e6⟩ := HG.out wr hg.out kβ hkβ
        have hki : (kβ : Int) < (i : Int) := by omega
        obtain ⟨a0, a1, a2, a3, a4, a5⟩ := HC.out wr hg.out
        have hfz := HFf.out wr hg.out
        have hfin := Lib.hid (Hfin.out wr kβ hg.out hkβ)
        clear hfk
        go_wp2_with fail
        go_ret2
        exact ⟨kβ, hkβ, rfl, hfin.out.1, hfin.out.2.1, hfin.out.2.2⟩
end Go.Proofs.YtihohljhjdmamaaGreat
