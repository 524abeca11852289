/- pool: Over and Make. -/
import Derived.Test.YtihohljhjdmamaaGreatPool8
namespace Go.Proofs.YtihohljhjdmamaaGreat
open Go.RowKit
set_option linter.unusedVariables false

theorem made_frames (nm D : ByteArray) (n : Nat) : madeCells #[.string ⟨#[]⟩, .int .i64 0, .string ⟨#[]⟩, .int .i64 0, .bool false, .int .u64 0, .bool false] (n * 7) = (frsC nm D (List.replicate n (0, 0))).toArray := by
  apply Array.ext_getElem?
  intro j
  have e : (frsC nm D (List.replicate n (0, 0))).toArray[j]? = (frsC nm D (List.replicate n (0, 0)))[j]? := List.getElem?_toArray
  rw [e]
  clear e
  rcases Nat.lt_or_ge j (n * 7) with h | h
  · have hi : j / 7 < n := by omega
    have h1 := frsC_get nm D (List.replicate n (0, 0)) (j / 7) (0, 0) (by rw [List.getElem?_replicate, if_pos hi]) (j % 7) (Nat.mod_lt _ (by decide))
    rw [show j / 7 * 7 + j % 7 = j by omega] at h1
    rw [h1]
    have hq : j % 7 < 7 := Nat.mod_lt _ (by decide)
    unfold madeCells
    rw [Array.getElem?_map, Array.getElem?_range]
    rw [if_pos h]
    simp only [Option.map_some]
    show some ((#[Value.string ⟨#[]⟩, .int .i64 0, .string ⟨#[]⟩, .int .i64 0, .bool false, .int .u64 0, .bool false])[j % 7]!) = _
    generalize j % 7 = q at hq
    match q, hq with
    | 0, _ => rfl
    | 1, _ => rfl
    | 2, _ => rfl
    | 3, _ => rfl
    | 4, _ => rfl
    | 5, _ => rfl
    | 6, _ => rfl
    | q + 7, h => omega
  · rw [List.getElem?_eq_none (by rw [frsC_length, List.length_replicate]; exact h), Array.getElem?_eq_none (by rw [size_madeCells]; exact h)]
set_option maxRecDepth 100000 in
theorem run_makeFrames (nm D : ByteArray) (n : Nat) (hn : n ≤ 256) (W : World) :
    (Instr.makeSlice 33 (.int .i64 (n : Int)) (.int .i64 (n : Int))).run Tryz.prog W = .ok (.slice (some ⟨W.heap.size, 0, none⟩) n n) (W.alloc (.cells (frsC nm D (List.replicate n (0, 0))).toArray 106)) := by
  obtain ⟨i, hi, hz0, hz1, hz2⟩ := info_parts frmInfo
  have hr := run_make (P := Tryz.prog) W 33 106 i _ Tryz.underlying33 hi hz0 .i64 .i64 n n (by omega) (by omega) (by rw [hz2]; omega) (by omega)
  simp only [Int.toNat_natCast] at hr
  rw [hr, hz1]
  rw [show (Value.agg #[.string ⟨#[]⟩, .int .i64 0, .string ⟨#[]⟩, .int .i64 0, .bool false, .int .u64 0, .bool false]).cells = #[.string ⟨#[]⟩, .int .i64 0, .string ⟨#[]⟩, .int .i64 0, .bool false, .int .u64 0, .bool false] from rfl, made_frames nm D n]
set_option maxRecDepth 100000 in
set_option maxHeartbeats 4000000 in
theorem over_any {B b S n : Nat} {nm D : ByteArray} (hn : n ≤ 256) (w : World) (hB : B ≤ w.heap.size) (h : DevAt w B b S nm (some D) []) :
    Calls Tryz.prog 20 #[.pointer (some ⟨b, 0, none⟩), .int .i64 (n : Nat)] w fun e w' => ∃ a, e = .returned (.pointer (some ⟨a, 0, none⟩)) ∧ Hid (ArAt w' B a b S nm D (List.replicate n (0, 0)) 0 0) ∧ Hid (w.grownBy w' none) := by
  have hmk := fun W => run_makeFrames nm D n hn W
  obtain ⟨q0, q1, hsz⟩ := two_blocks w (.cells (frsC nm D (List.replicate n (0, 0))).toArray 106) (.cells #[.pointer (some ⟨b, 0, none⟩), .slice (some ⟨w.heap.size, 0, none⟩) n n, .int .u64 0, .int .u64 0, .int .u64 0, .int .i64 0] 100)
  have hg : w.grownBy ((w.alloc (.cells (frsC nm D (List.replicate n (0, 0))).toArray 106)).alloc (.cells #[.pointer (some ⟨b, 0, none⟩), .slice (some ⟨w.heap.size, 0, none⟩) n n, .int .u64 0, .int .u64 0, .int .u64 0, .int .i64 0] 100)) none := grown_trans (World.grownBy_alloc _ _ _) (World.grownBy_alloc _ _ _)
  have HA : Hid (ArAt ((w.alloc (.cells (frsC nm D (List.replicate n (0, 0))).toArray 106)).alloc (.cells #[.pointer (some ⟨b, 0, none⟩), .slice (some ⟨w.heap.size, 0, none⟩) n n, .int .u64 0, .int .u64 0, .int .u64 0, .int .i64 0] 100)) B (w.heap.size + 1) b S nm D (List.replicate n (0, 0)) 0 0) := by
    refine ⟨by omega, h.grown hg, some ⟨w.heap.size, 0, none⟩, n, 0, ?_, ?_⟩
    · rw [List.length_replicate]
      exact q1
    · rw [List.length_replicate]
      refine ⟨by rw [frsC_length, List.length_replicate], .inr ⟨w.heap.size, n, (frsC nm D (List.replicate n (0, 0))).toArray, rfl, hB, q0, Nat.le_refl _, by unfold maxLen; omega, ?_, ?_⟩⟩
      · rw [List.size_toArray, frsC_length, List.length_replicate]
      · rw [List.take_of_length_le (by rw [frsC_length, List.length_replicate]; exact Nat.le_refl _)]
  have HG := Lib.hid hg
  have hni : (n : Int) ≤ 256 := by omega
  clear q0 q1 hsz hg h
  go_enter Tryz.func20, Tryz.ntmps20
  go_wp2_with fail
  clear hmk
  generalize (w.alloc (.cells (frsC nm D (List.replicate n (0, 0))).toArray 106)).alloc (.cells #[.pointer (some ⟨b, 0, none⟩), .slice (some ⟨w.heap.size, 0, none⟩) n n, .int .u64 0, .int .u64 0, .int .u64 0, .int .i64 0] 100) = W at HA HG ⊢
  go_ret
  exact ⟨_, rfl, HA, HG⟩
/-- a pool, stored in a result's cells -/
theorem put_pool {w w5 : World} {P S T R : Nat} {nm D : ByteArray} {fs : List (Nat × Nat)} {ae aw af : Option Addr} {ce cw cf : Nat} (n : Nat) (hn : fs.length = n) (tI rI : Int) (ht : tI = (T : Nat)) (hr : rI = (R : Nat)) (hrow : w5.heap[P]? = some (.cells #[.int .i64 0, .slice none 0 0, .slice none 0 0, .int .i64 0, .bool false, .slice none 0 0, .int .u64 0, .int .u64 0, .int .u64 0] 36 (0, 0)))
    (hcf : fs.length ≤ cf) (he : w5.ownsRow 0 62 2 (.slice ae 1 ce) 1 (exC nm (some D))) (hw : w5.ownsRow 0 98 3 (.slice aw 0 cw) 0 []) (hf : FrsAt w5 nm D (.slice af fs.length cf) fs) (hg : w.grownBy w5 none) (hP : w.heap.size ≤ P) :
    (((((((((w5.setCell ⟨P, 0, none⟩ (.int .i64 (S : Nat))).setCell ⟨P, 1, none⟩ (.slice ae 1 ce)).setCell ⟨P, 2, none⟩ (.slice aw 0 cw)).setCell ⟨P, 3, none⟩ (.int .i64 (-1))).setCell ⟨P, 4, none⟩ (.bool false)).setCell ⟨P, 5, none⟩ (.slice af n cf)).setCell ⟨P, 6, none⟩ (.int .u64 tI)).setCell ⟨P, 7, none⟩ (.int .u64 rI)).setCell ⟨P, 8, none⟩ (.int .u64 0)).heap[P]? = some (.cells #[.int .i64 (S : Nat), .slice ae 1 ce, .slice aw 0 cw, .int .i64 (-1), .bool false, .slice af n cf, .int .u64 tI, .int .u64 rI, .int .u64 0] 36 (0, 0)) ∧ Hid (PlAt (((((((((w5.setCell ⟨P, 0, none⟩ (.int .i64 (S : Nat))).setCell ⟨P, 1, none⟩ (.slice ae 1 ce)).setCell ⟨P, 2, none⟩ (.slice aw 0 cw)).setCell ⟨P, 3, none⟩ (.int .i64 (-1))).setCell ⟨P, 4, none⟩ (.bool false)).setCell ⟨P, 5, none⟩ (.slice af n cf)).setCell ⟨P, 6, none⟩ (.int .u64 tI)).setCell ⟨P, 7, none⟩ (.int .u64 rI)).setCell ⟨P, 8, none⟩ (.int .u64 0)) S nm D fs T R (.agg #[.int .i64 (S : Nat), .slice ae 1 ce, .slice aw 0 cw, .int .i64 (-1), .bool false, .slice af n cf, .int .u64 tI, .int .u64 rI, .int .u64 0])) ∧ Hid (w.grownBy (((((((((w5.setCell ⟨P, 0, none⟩ (.int .i64 (S : Nat))).setCell ⟨P, 1, none⟩ (.slice ae 1 ce)).setCell ⟨P, 2, none⟩ (.slice aw 0 cw)).setCell ⟨P, 3, none⟩ (.int .i64 (-1))).setCell ⟨P, 4, none⟩ (.bool false)).setCell ⟨P, 5, none⟩ (.slice af n cf)).setCell ⟨P, 6, none⟩ (.int .u64 tI)).setCell ⟨P, 7, none⟩ (.int .u64 rI)).setCell ⟨P, 8, none⟩ (.int .u64 0)) none) := by
  have hput := row_put9 (.int .i64 (S : Nat)) (.slice ae 1 ce) (.slice aw 0 cw) (.int .i64 (-1)) (.bool false) (.slice af n cf) (.int .u64 tI) (.int .u64 rI) (.int .u64 0) hrow
  generalize (((((((((w5.setCell ⟨P, 0, none⟩ (.int .i64 (S : Nat))).setCell ⟨P, 1, none⟩ (.slice ae 1 ce)).setCell ⟨P, 2, none⟩ (.slice aw 0 cw)).setCell ⟨P, 3, none⟩ (.int .i64 (-1))).setCell ⟨P, 4, none⟩ (.bool false)).setCell ⟨P, 5, none⟩ (.slice af n cf)).setCell ⟨P, 6, none⟩ (.int .u64 tI)).setCell ⟨P, 7, none⟩ (.int .u64 rI)).setCell ⟨P, 8, none⟩ (.int .u64 0)) = W at hput ⊢
  have c0 : w5.cell? ⟨P, 0, none⟩ = some (.int .i64 0) := row_cell hrow 0 _ rfl
  have hhd : frsC nm D fs = [] ∨ ∃ s, (frsC nm D fs)[0]? = some (.string s) := by
    cases fs with
    | nil => exact .inl rfl
    | cons f fs => exact .inr ⟨nmO nm f, rfl⟩
  subst ht hr hn
  exact ⟨hput.1, ⟨ae, ce, aw, cw, af, cf, hcf, rfl, World.ownsRow.kept he hput.2 (.inr (own_ne_row he hrow (by decide))), World.ownsRow.kept hw hput.2 (.inr (own_ne_row hw hrow (by decide))), RowAt.put hf hhd c0 hput.2⟩, grown_own hg hput.2 hP⟩
set_option maxRecDepth 100000 in
set_option maxHeartbeats 8000000 in
theorem pmake_any {S n : Nat} {nm D : ByteArray} (hG : Good S nm (some D) []) (hn1 : 1 ≤ n) (hn : n ≤ 256) (v : Value) (w : World) (hv : DskAt w S nm (some D) [] v) :
    Calls Tryz.prog 8 #[v, .int .i64 (n : Nat)] w fun e w' => ∃ p, e = .returned (.tuple #[p, .int .i64 0]) ∧ Hid (PlAt w' S nm D (List.replicate n (0, 0)) 0 0 p) ∧ Hid (w.grownBy w' none) := by
  have HS := Lib.hid pool_size
  obtain ⟨ev, wv, rfl, he, hw⟩ := hv
  have HC := Lib.hid (fun W (hW : w.grownBy W none) => check_disk hG ev wv false W (he.grown hW) (hw.grown hW))
  have HO : Hid (∀ W, w.grownBy W none → Calls Tryz.prog 21 #[.agg #[.int .i64 (S : Nat), ev, wv, .int .i64 (-1), .bool false]] W fun e w' => ∃ ae' ce' aw' cw', e = .returned (.agg #[.int .i64 (S : Nat), .slice ae' 1 ce', .slice aw' 0 cw', .int .i64 (-1), .bool false]) ∧ Hid (w'.ownsRow W.heap.size 62 2 (.slice ae' 1 ce') 1 (exC nm (some D)) ∧ w'.ownsRow W.heap.size 98 3 (.slice aw' 0 cw') 0 []) ∧ Hid (W.grownBy w' none)) := fun W hW => by
    refine (own_any (S : Nat) (-1) false ev wv 1 0 (exC nm (some D)) [] W (he.grown hW) (hw.grown hW) rfl rfl (exC_one nm (some D)) (by simp) (by omega) (by omega)).mono ?_
    rintro e w' ⟨ev', wv', rfl, h1, h2, h3⟩
    obtain ⟨a1, c1, rfl, _⟩ := RowAt.of_owns h1
    obtain ⟨a2, c2, rfl, _⟩ := RowAt.of_owns h2
    exact ⟨a1, c1, a2, c2, rfl, ⟨h1, h2⟩, h3⟩
  have HOv := Lib.hid (fun (W : World) (b : Nat) (hd : DevAt W 0 b S nm (some D) []) => over_any hn W (Nat.zero_le _) hd)
  have HPl := Lib.hid (fun (W : World) (a b : Nat) (fs : List (Nat × Nat)) (ha : ArAt W 0 a b S nm D fs 0 0) => plain_any W ha)
  clear he hw hG
  have hni : (n : Int) ≤ 256 := by omega
  have hn1i : (1 : Int) ≤ (n : Int) := by omega
  obtain ⟨q0, q1, hsz⟩ := two_blocks w (.cells #[.int .i64 (S : Nat), ev, wv, .int .i64 (-1), .bool false] 26) (.cells #[.int .i64 0, .slice none 0 0, .slice none 0 0, .int .i64 0, .bool false, .slice none 0 0, .int .u64 0, .int .u64 0, .int .u64 0] 36)
  have hg0 : w.grownBy ((w.alloc (.cells #[.int .i64 (S : Nat), ev, wv, .int .i64 (-1), .bool false] 26)).alloc (.cells #[.int .i64 0, .slice none 0 0, .slice none 0 0, .int .i64 0, .bool false, .slice none 0 0, .int .u64 0, .int .u64 0, .int .u64 0] 36)) none := grown_trans (World.grownBy_alloc _ _ _) (World.grownBy_alloc _ _ _)
  go_enter Tryz.func8, Tryz.ntmps8
  go_wp2_with fail
  have HF := Lib.hid (fun W (hW : World.grownBy _ W none) => And.intro (row5 (row_kept (w' := W) q0 hW (by simp))) (And.intro (row_kept (w' := W) q1 hW (by simp)) (row9 (row_kept (w' := W) q1 hW (by simp)))))
  have G0 := Lib.hid hg0
  clear q0 q1 hg0
  (with_reducible refine (HC.out _ G0.out).mono ?_)
  rintro e w1 ⟨rfl, hg1⟩
  generalize (w.alloc (.cells #[.int .i64 (S : Nat), ev, wv, .int .i64 (-1), .bool false] 26)).alloc (.cells #[.int .i64 0, .slice none 0 0, .slice none 0 0, .int .i64 0, .bool false, .slice none 0 0, .int .u64 0, .int .u64 0, .int .u64 0] 36) = w0 at *
  obtain ⟨p, hp⟩ : ∃ p, p = w.heap.size := ⟨_, rfl⟩
  rw [← hp] at HF ⊢
  have Hp := Lib.hid hp
  clear hp hsz
  obtain ⟨⟨⟨b0, b1, b2, b3, b4⟩, f0⟩, _⟩ := HF.out w1 hg1.out
  clear f0
  simp only []
  go_wp2_with fail
  (with_reducible refine (HO.out _ (grown_trans G0.out hg1.out)).mono ?_)
  rintro e w2 ⟨ae', ce', aw', cw', rfl, hoe, hg2⟩
  clear b0 b1 b2 b3 b4
  simp only []
  go_wp2_with fail
  have q3 := heap_alloc_new w2 (.cells #[.int .i64 (S : Nat), .slice ae' 1 ce', .slice aw' 0 cw', .int .i64 (-1), .bool false] 59)
  have g3 := World.grownBy_alloc w2 (.cells #[.int .i64 (S : Nat), .slice ae' 1 ce', .slice aw' 0 cw', .int .i64 (-1), .bool false] 59) none
  generalize w2.alloc (.cells #[.int .i64 (S : Nat), .slice ae' 1 ce', .slice aw' 0 cw', .int .i64 (-1), .bool false] 59) = w3 at q3 g3 ⊢
  generalize w2.heap.size = b at q3 ⊢
  have hdev : Hid (DevAt w3 0 b S nm (some D) []) := ⟨Nat.zero_le _, ae', ce', aw', cw', q3, own_keep hoe.out.1 g3 (Nat.zero_le _), own_keep hoe.out.2 g3 (Nat.zero_le _)⟩
  have G3 : Hid (w0.grownBy w3 none) := grown_trans hg1.out (grown_trans hg2.out g3)
  clear q3 g3
  (with_reducible refine (HOv.out _ _ hdev.out).mono ?_)
  rintro e w4 ⟨a, rfl, hA, hg4⟩
  simp only []
  go_wp2_with fail
  (with_reducible refine (HPl.out _ _ _ _ hA.out).mono ?_)
  rintro e w5 ⟨v, rfl, hv5, hg5⟩
  obtain ⟨ae, ce, aw, cw, af, cf, hcf, rfl, h5e, h5w, h5f⟩ := hv5.out.form
  obtain ⟨_, hrow5, ⟨c0, c1, c2, c3, c4, c5, c6, c7, c8⟩, hfz⟩ := HF.out w5 (grown_trans G3.out (grown_trans hg4.out hg5.out))
  have Hrow5 := Lib.hid hrow5
  have H5 := Lib.hid (And.intro hcf (And.intro h5e (And.intro h5w h5f)))
  clear hrow5 hcf h5e h5w h5f
  simp only []
  go_wp2_with fail
  clear c0 c1 c2 c3 c4 c5 c6 c7 c8 hfz
  obtain ⟨hr1, hr2, hr3⟩ := put_pool (w := w) (T := 0) (R := 0) n (List.length_replicate ..) 0 0 rfl rfl Hrow5.out H5.out.1 H5.out.2.1 H5.out.2.2.1 H5.out.2.2.2 (grown_trans G0.out (grown_trans G3.out (grown_trans hg4.out hg5.out))) (by rw [Hp.out]; omega)
  generalize (((((((((w5.setCell ⟨p + 1, 0, none⟩ (.int .i64 (S : Nat))).setCell ⟨p + 1, 1, none⟩ (.slice ae 1 ce)).setCell ⟨p + 1, 2, none⟩ (.slice aw 0 cw)).setCell ⟨p + 1, 3, none⟩ (.int .i64 (-1))).setCell ⟨p + 1, 4, none⟩ (.bool false)).setCell ⟨p + 1, 5, none⟩ (.slice af n cf)).setCell ⟨p + 1, 6, none⟩ (.int .u64 0)).setCell ⟨p + 1, 7, none⟩ (.int .u64 0)).setCell ⟨p + 1, 8, none⟩ (.int .u64 0)) = W at hr1 hr2 hr3 ⊢
  refine bodyPost_ret (results_row_tmp (fn := Tryz.f8) (p := 4) (q := 5) (ty := 36) rfl _ _ (p + 1) 36 _ _ _ rfl hr1 Tryz.underlying36 rfl HS.out) rfl ?_
  exact ⟨_, rfl, hr2, hr3⟩
end Go.Proofs.YtihohljhjdmamaaGreat
