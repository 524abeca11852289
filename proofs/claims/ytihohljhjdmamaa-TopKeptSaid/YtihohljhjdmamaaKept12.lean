/- A disk: an extent is made, a sector is written, all is done: as plain data. -/
import Derived.Test.YtihohljhjdmamaaKept11
namespace Go.Proofs.Ytihohljhjdmamaa
open Go.RowKit
set_option linter.unusedVariables false

theorem wrap_fin {w W0 w1 w2 w3 : World} {R : Nat} {o : Obj} (h0 : w.grownBy W0 none) (h1 : W0.grownBy w1 none) (h2 : Below W0.heap.size w1 w2) (h3 : w2.grownBy w3 none) (hr : W0.heap[R]? = some o) : w3.heap[R]? = some o ∧ w.grownBy w3 none := by
  have hlt := row_lt hr
  refine ⟨row_kept ((h2.block R hlt).trans (row_kept hr h1 (by simp))) h3 (by simp), grown_bel ?_ none⟩
  have b1 : Below w.heap.size w w1 := bel_grown (grown_trans h0 h1) (Nat.le_refl _)
  exact (b1.trans (h2.mono h0.size)).trans (bel_grown h3 (Nat.le_trans h0.size (Nat.le_trans h1.size h2.size)))
theorem sync1_any (k : Nat) (W : World) : Calls Try.prog 45 #[.int .i64 (k : Nat)] W fun e w' => e = .returned (.bool ((fun _ => true : Nat → Bool) k)) ∧ w' = W := by
  go_enter Try.func45, Try.ntmps45
  go_wp2_with fail
  go_ret
  exact ⟨rfl, rfl⟩
theorem RowAt.put {w w' : World} {v : Value} {n R : Nat} {xs : List Value} {z : Int} (h : RowAt w v n xs) (hx : xs = [] ∨ ∃ s, xs[0]? = some (.string s)) (hr : w.cell? ⟨R, 0, none⟩ = some (.int .i64 z)) (hg : w.grownBy w' (some R)) : RowAt w' v n xs := by
  obtain ⟨a, cap, h1, h2⟩ := h
  refine ⟨a, cap, h1, fun j u hj => ?_⟩
  obtain ⟨g, e1, c1⟩ := h2 j u hj
  refine ⟨g, e1, hg.cell c1 (fun e => ?_)⟩
  injection e with e
  simp only at e
  rcases hx with rfl | ⟨s, hs⟩
  · simp at hj
  · obtain ⟨g2, e2, c2⟩ := h2 0 _ hs
    rw [e1] at e2
    injection e2 with e2
    injection e2 with e2
    rw [← e2, show g = R by omega] at c2
    rw [hr] at c2
    injection c2 with c2
    cases c2
theorem exC_head (nm : ByteArray) (E : Option ByteArray) : exC nm E = [] ∨ ∃ s, (exC nm E)[0]? = some (.string s) := by
  cases E with
  | none => exact .inl rfl
  | some D => exact .inr ⟨nm, rfl⟩
theorem wsC_head (nm : ByteArray) (ws : List (Nat × ByteArray)) : wsC nm ws = [] ∨ ∃ s, (wsC nm ws)[0]? = some (.string s) := by
  cases ws with
  | nil => exact .inl rfl
  | cons p ws => exact .inr ⟨nm, rfl⟩
/-- all is done -/
def dall (ws : List (Nat × ByteArray)) (D : ByteArray) : ByteArray := dn (fun _ => true) ws D
set_option maxRecDepth 100000 in
theorem devsync_any {B b S : Nat} {nm D : ByteArray} {ws : List (Nat × ByteArray)} (hG : Good S nm (some D) ws) (w : World) (h : DevAt w B b S nm (some D) ws) (hBw : B ≤ w.heap.size) :
    Calls Try.prog 23 #[.pointer (some ⟨b, 0, none⟩)] w fun e w' => e = .returned (.tuple #[]) ∧ DevAt w' B b S nm (some (dall ws D)) [] ∧ Below B w w' := by
  have HS := Lib.hid (settle_sync (fun _ => true) hG w h hBw (fun W _ k _ => sync1_any k W))
  clear h hG
  go_enter Try.func23, Try.ntmps23
  go_wp2_with fail
  refine HS.out.mono ?_
  rintro e w1 ⟨rfl, hd, hb⟩
  simp only []
  go_wp2_with fail
  go_end0
  exact ⟨rfl, hd, hb⟩

set_option maxRecDepth 100000 in
set_option maxHeartbeats 2000000 in
theorem new_disk {S : Nat} {nm : ByteArray} (hG : Good S nm none []) (n : Nat) (hn : 1 ≤ n) (hnS : n ≤ S) (v : Value) (w : World) (hv : DskAt w S nm none [] v) :
    Calls Try.prog 7 #[v, .string nm, .int .i64 (n : Nat)] w fun e w' => ∃ (v' : Value) (D : ByteArray), D.size = 64 * n ∧ e = .returned (.tuple #[v', .int .i64 0]) ∧ DskAt w' S nm (some D) [] v' ∧ Hid (w.grownBy w' none) := by
  obtain ⟨ev, wv, rfl, he, hw⟩ := hv
  have HO := Lib.hid (fun W (hW : w.grownBy W none) => open_disk hG _ W ⟨_, _, rfl, he.grown hW, hw.grown hW⟩)
  have HS := Lib.hid disk_size
  have g0 := World.grownBy_alloc w (.cells #[.int .i64 (S : Nat), ev, wv, .int .i64 (-1), .bool false] 31) none
  have q0 := heap_alloc_new w (.cells #[.int .i64 (S : Nat), ev, wv, .int .i64 (-1), .bool false] 31)
  have g1 := World.grownBy_alloc (w.alloc (.cells #[.int .i64 (S : Nat), ev, wv, .int .i64 (-1), .bool false] 31)) (.cells #[.int .i64 0, .slice none 0 0, .slice none 0 0, .int .i64 0, .bool false] 31) none
  have q1 := heap_alloc_new (w.alloc (.cells #[.int .i64 (S : Nat), ev, wv, .int .i64 (-1), .bool false] 31)) (.cells #[.int .i64 0, .slice none 0 0, .slice none 0 0, .int .i64 0, .bool false] 31)
  clear he hw
  go_enter Try.func7, Try.ntmps7
  go_upto_region 1 with (fail)
  simp only [World.size_alloc] at q1 ⊢
  have q0' := row_kept q0 g1 (by simp)
  have hG0 := grown_trans g0 g1
  generalize (w.alloc (.cells #[.int .i64 (S : Nat), ev, wv, .int .i64 (-1), .bool false] 31)).alloc (.cells #[.int .i64 0, .slice none 0 0, .slice none 0 0, .int .i64 0, .bool false] 31) = W0 at *
  obtain ⟨⟨r0, r1, r2, r3, r4⟩, _⟩ := row5 q0'
  have Q1 := Lib.hid q1
  have HG0 := Lib.hid hG0
  clear q0 q0' q1 g0 g1 hG0
  go_wp2_with fail
  refine (HO.out W0 HG0.out).mono ?_
  rintro e w1 ⟨b, rfl, hD1, hg1⟩
  clear r0 r1 r2 r3 r4
  simp only []
  go_wp2_with fail
  refine (devnew_ok n hn hnS hG.size hG.name w1 hD1 hg1.out.size).mono ?_
  rintro e w2 ⟨D, hDz, rfl, hD2, hb2⟩
  have HDz := Lib.hid hDz
  clear hDz
  simp only []
  go_wp2_with fail
  refine (done_any _ _ hD2).mono ?_
  rintro e w3 ⟨v3, rfl, hv3, hg3⟩
  obtain ⟨ev3, wv3, rfl, he3, hw3⟩ := hv3
  obtain ⟨a3, c3, rfl, he3⟩ := he3
  obtain ⟨a4, c4, rfl, hw3⟩ := hw3
  obtain ⟨r3, hgf⟩ := wrap_fin HG0.out hg1.out hb2 hg3.out Q1.out
  obtain ⟨⟨t0, t1, t2, t3, t4⟩, f0, f1, f2, f3, f4⟩ := row5 r3
  have fq := Lib.hid (row_put5 (.int .i64 (S : Nat)) (.slice a3 (exN (some D)) c3) (.slice a4 ([] : List (Nat × ByteArray)).length c4) (.int .i64 (-1)) (.bool false) r3)
  have HGf := Lib.hid (grown_own hgf fq.out.2 (by omega))
  have HE := Lib.hid (RowAt.put (n := exN (some D)) (R := w.heap.size + 1) ⟨a3, c3, rfl, he3⟩ (exC_head nm _) t0 fq.out.2)
  have HW := Lib.hid (RowAt.put (n := ([] : List (Nat × ByteArray)).length) (R := w.heap.size + 1) ⟨a4, c4, rfl, hw3⟩ (wsC_head nm _) t0 fq.out.2)
  clear r3 hgf he3 hw3 hg3 hb2 hD2 hD1 hg1 HO
  go_wp2_with fail
  refine bodyPost_ret (results_row_tmp (fn := Try.f7) (p := 6) (q := 7) (ty := 31) rfl _ _ (w.heap.size + 1) 31 _ _ _ rfl fq.out.1 Try.underlying31 rfl HS.out) rfl ?_
  exact ⟨_, D, HDz.out, rfl, ⟨_, _, rfl, HE.out, HW.out⟩, HGf⟩

set_option maxRecDepth 100000 in
set_option maxHeartbeats 2000000 in
theorem write_disk {S : Nat} {nm : ByteArray} {D : ByteArray} {ws : List (Nat × ByteArray)} {m : Nat} (hG : Good S nm (some D) ws) (s : Nat) (d : ByteArray) (hDm : D.size = 64 * m) (hs : s < m) (hd : d.size = 64) (hl : ws.length < 16384) (v : Value) (w : World) (hv : DskAt w S nm (some D) ws v) :
    Calls Try.prog 8 #[v, .string nm, .int .i64 (s : Nat), .string d] w fun e w' => ∃ (v' : Value), e = .returned (.tuple #[v', .int .i64 0]) ∧ DskAt w' S nm (some D) (ws ++ [(s, d)]) v' ∧ Hid (w.grownBy w' none) := by
  obtain ⟨ev, wv, rfl, he, hw⟩ := hv
  have HO := Lib.hid (fun W (hW : w.grownBy W none) => open_disk hG _ W ⟨_, _, rfl, he.grown hW, hw.grown hW⟩)
  have HS := Lib.hid disk_size
  have g0 := World.grownBy_alloc w (.cells #[.int .i64 (S : Nat), ev, wv, .int .i64 (-1), .bool false] 31) none
  have q0 := heap_alloc_new w (.cells #[.int .i64 (S : Nat), ev, wv, .int .i64 (-1), .bool false] 31)
  have g1 := World.grownBy_alloc (w.alloc (.cells #[.int .i64 (S : Nat), ev, wv, .int .i64 (-1), .bool false] 31)) (.cells #[.int .i64 0, .slice none 0 0, .slice none 0 0, .int .i64 0, .bool false] 31) none
  have q1 := heap_alloc_new (w.alloc (.cells #[.int .i64 (S : Nat), ev, wv, .int .i64 (-1), .bool false] 31)) (.cells #[.int .i64 0, .slice none 0 0, .slice none 0 0, .int .i64 0, .bool false] 31)
  clear he hw
  go_enter Try.func8, Try.ntmps8
  go_upto_region 1 with (fail)
  simp only [World.size_alloc] at q1 ⊢
  have q0' := row_kept q0 g1 (by simp)
  have hG0 := grown_trans g0 g1
  generalize (w.alloc (.cells #[.int .i64 (S : Nat), ev, wv, .int .i64 (-1), .bool false] 31)).alloc (.cells #[.int .i64 0, .slice none 0 0, .slice none 0 0, .int .i64 0, .bool false] 31) = W0 at *
  obtain ⟨⟨r0, r1, r2, r3, r4⟩, _⟩ := row5 q0'
  have Q1 := Lib.hid q1
  have HG0 := Lib.hid hG0
  clear q0 q0' q1 g0 g1 hG0
  go_wp2_with fail
  refine (HO.out W0 HG0.out).mono ?_
  rintro e w1 ⟨b, rfl, hD1, hg1⟩
  clear r0 r1 r2 r3 r4
  simp only []
  go_wp2_with fail
  refine (devwrite_ok s d hDm hs (by obtain ⟨m2, h1, _, h3⟩ := hG.ext D rfl; have := hG.size; omega) hd hl w1 hD1 hg1.out.size).mono ?_
  rintro e w2 ⟨rfl, hD2, hb2⟩
  obtain ⟨wz, hwz⟩ : ∃ wz, wz = ws ++ [(s, d)] := ⟨_, rfl⟩
  rw [← hwz] at hD2
  have HWZ := Lib.hid hwz
  clear hwz
  simp only []
  go_wp2_with fail
  refine (done_any _ _ hD2).mono ?_
  rintro e w3 ⟨v3, rfl, hv3, hg3⟩
  obtain ⟨ev3, wv3, rfl, he3, hw3⟩ := hv3
  obtain ⟨a3, c3, rfl, he3⟩ := he3
  obtain ⟨a4, c4, rfl, hw3⟩ := hw3
  obtain ⟨r3, hgf⟩ := wrap_fin HG0.out hg1.out hb2 hg3.out Q1.out
  obtain ⟨⟨t0, t1, t2, t3, t4⟩, f0, f1, f2, f3, f4⟩ := row5 r3
  have fq := Lib.hid (row_put5 (.int .i64 (S : Nat)) (.slice a3 (exN (some D)) c3) (.slice a4 (wz : List (Nat × ByteArray)).length c4) (.int .i64 (-1)) (.bool false) r3)
  have HGf := Lib.hid (grown_own hgf fq.out.2 (by omega))
  have HE := Lib.hid (RowAt.put (n := exN (some D)) (R := w.heap.size + 1) ⟨a3, c3, rfl, he3⟩ (exC_head nm _) t0 fq.out.2)
  have HW := Lib.hid (RowAt.put (n := (wz : List (Nat × ByteArray)).length) (R := w.heap.size + 1) ⟨a4, c4, rfl, hw3⟩ (wsC_head nm _) t0 fq.out.2)
  clear r3 hgf he3 hw3 hg3 hb2 hD2 hD1 hg1 HO
  go_wp2_with fail
  refine bodyPost_ret (results_row_tmp (fn := Try.f8) (p := 8) (q := 9) (ty := 31) rfl _ _ (w.heap.size + 1) 31 _ _ _ rfl fq.out.1 Try.underlying31 rfl HS.out) rfl ?_
  exact ⟨_, rfl, by rw [← HWZ.out]; exact ⟨_, _, rfl, HE.out, HW.out⟩, HGf⟩

set_option maxRecDepth 100000 in
set_option maxHeartbeats 2000000 in
theorem write_disk_bad {S : Nat} {nm : ByteArray} {E : Option ByteArray} {ws : List (Nat × ByteArray)} (hG : Good S nm E ws) (y : ByteArray) (s : Int) (d : ByteArray) (hn : ¬ (plOk nm E y s ∧ d.size = 64)) (v : Value) (w : World) (hv : DskAt w S nm E ws v) :
    Calls Try.prog 8 #[v, .string y, .int .i64 s, .string d] w fun e w' => ∃ (v' : Value) (c : Int), (c = 1 ∨ c = 2 ∨ c = 3) ∧ e = .returned (.tuple #[v', .int .i64 c]) ∧ DskAt w' S nm E ws v' ∧ Hid (w.grownBy w' none) := by
  obtain ⟨ev, wv, rfl, he, hw⟩ := hv
  have HO := Lib.hid (fun W (hW : w.grownBy W none) => open_disk hG _ W ⟨_, _, rfl, he.grown hW, hw.grown hW⟩)
  have HS := Lib.hid disk_size
  have g0 := World.grownBy_alloc w (.cells #[.int .i64 (S : Nat), ev, wv, .int .i64 (-1), .bool false] 31) none
  have q0 := heap_alloc_new w (.cells #[.int .i64 (S : Nat), ev, wv, .int .i64 (-1), .bool false] 31)
  have g1 := World.grownBy_alloc (w.alloc (.cells #[.int .i64 (S : Nat), ev, wv, .int .i64 (-1), .bool false] 31)) (.cells #[.int .i64 0, .slice none 0 0, .slice none 0 0, .int .i64 0, .bool false] 31) none
  have q1 := heap_alloc_new (w.alloc (.cells #[.int .i64 (S : Nat), ev, wv, .int .i64 (-1), .bool false] 31)) (.cells #[.int .i64 0, .slice none 0 0, .slice none 0 0, .int .i64 0, .bool false] 31)
  clear he hw
  go_enter Try.func8, Try.ntmps8
  go_upto_region 1 with (fail)
  simp only [World.size_alloc] at q1 ⊢
  have q0' := row_kept q0 g1 (by simp)
  have hG0 := grown_trans g0 g1
  generalize (w.alloc (.cells #[.int .i64 (S : Nat), ev, wv, .int .i64 (-1), .bool false] 31)).alloc (.cells #[.int .i64 0, .slice none 0 0, .slice none 0 0, .int .i64 0, .bool false] 31) = W0 at *
  obtain ⟨⟨r0, r1, r2, r3, r4⟩, _⟩ := row5 q0'
  have Q1 := Lib.hid q1
  have HG0 := Lib.hid hG0
  clear q0 q0' q1 g0 g1 hG0
  go_wp2_with fail
  refine (HO.out W0 HG0.out).mono ?_
  rintro e w1 ⟨b, rfl, hD1, hg1⟩
  clear r0 r1 r2 r3 r4
  simp only []
  go_wp2_with fail
  refine (devwrite_bad y s d (fun D hD => by obtain ⟨m2, h1, _, h3⟩ := hG.ext D hD; have := hG.size; exact ⟨m2, h1, by omega⟩) hn w1 hD1).mono ?_
  rintro e w2 ⟨c, hc, rfl, hg2⟩
  have hD2 := hD1.grown hg2.out
  have hb2 : Below W0.heap.size w1 w2 := bel_grown hg2.out hg1.out.size
  have Hc := Lib.hid hc
  clear hc hg2
  simp only []
  go_wp2_with fail
  refine (done_any _ _ hD2).mono ?_
  rintro e w3 ⟨v3, rfl, hv3, hg3⟩
  obtain ⟨ev3, wv3, rfl, he3, hw3⟩ := hv3
  obtain ⟨a3, c3, rfl, he3⟩ := he3
  obtain ⟨a4, c4, rfl, hw3⟩ := hw3
  obtain ⟨r3, hgf⟩ := wrap_fin HG0.out hg1.out hb2 hg3.out Q1.out
  obtain ⟨⟨t0, t1, t2, t3, t4⟩, f0, f1, f2, f3, f4⟩ := row5 r3
  have fq := Lib.hid (row_put5 (.int .i64 (S : Nat)) (.slice a3 (exN E) c3) (.slice a4 (ws : List (Nat × ByteArray)).length c4) (.int .i64 (-1)) (.bool false) r3)
  have HGf := Lib.hid (grown_own hgf fq.out.2 (by omega))
  have HE := Lib.hid (RowAt.put (n := exN E) (R := w.heap.size + 1) ⟨a3, c3, rfl, he3⟩ (exC_head nm _) t0 fq.out.2)
  have HW := Lib.hid (RowAt.put (n := (ws : List (Nat × ByteArray)).length) (R := w.heap.size + 1) ⟨a4, c4, rfl, hw3⟩ (wsC_head nm _) t0 fq.out.2)
  clear r3 hgf he3 hw3 hg3 hb2 hD2 hD1 hg1 HO
  go_wp2_with fail
  refine bodyPost_ret (results_row_tmp (fn := Try.f8) (p := 8) (q := 9) (ty := 31) rfl _ _ (w.heap.size + 1) 31 _ _ _ rfl fq.out.1 Try.underlying31 rfl HS.out) rfl ?_
  exact ⟨_, c, Hc.out, rfl, ⟨_, _, rfl, HE.out, HW.out⟩, HGf⟩

set_option maxRecDepth 100000 in
set_option maxHeartbeats 2000000 in
theorem sync_disk {S : Nat} {nm : ByteArray} {D : ByteArray} {ws : List (Nat × ByteArray)} (hG : Good S nm (some D) ws) (v : Value) (w : World) (hv : DskAt w S nm (some D) ws v) :
    Calls Try.prog 9 #[v] w fun e w' => ∃ (v' : Value), e = .returned (.tuple #[v', .int .i64 0]) ∧ DskAt w' S nm (some (dall ws D)) [] v' ∧ Hid (w.grownBy w' none) := by
  obtain ⟨ev, wv, rfl, he, hw⟩ := hv
  have HO := Lib.hid (fun W (hW : w.grownBy W none) => open_disk hG _ W ⟨_, _, rfl, he.grown hW, hw.grown hW⟩)
  have HS := Lib.hid disk_size
  have g0 := World.grownBy_alloc w (.cells #[.int .i64 (S : Nat), ev, wv, .int .i64 (-1), .bool false] 31) none
  have q0 := heap_alloc_new w (.cells #[.int .i64 (S : Nat), ev, wv, .int .i64 (-1), .bool false] 31)
  have g1 := World.grownBy_alloc (w.alloc (.cells #[.int .i64 (S : Nat), ev, wv, .int .i64 (-1), .bool false] 31)) (.cells #[.int .i64 0, .slice none 0 0, .slice none 0 0, .int .i64 0, .bool false] 31) none
  have q1 := heap_alloc_new (w.alloc (.cells #[.int .i64 (S : Nat), ev, wv, .int .i64 (-1), .bool false] 31)) (.cells #[.int .i64 0, .slice none 0 0, .slice none 0 0, .int .i64 0, .bool false] 31)
  clear he hw
  go_enter Try.func9, Try.ntmps9
  go_upto_region 1 with (fail)
  simp only [World.size_alloc] at q1 ⊢
  have q0' := row_kept q0 g1 (by simp)
  have hG0 := grown_trans g0 g1
  generalize (w.alloc (.cells #[.int .i64 (S : Nat), ev, wv, .int .i64 (-1), .bool false] 31)).alloc (.cells #[.int .i64 0, .slice none 0 0, .slice none 0 0, .int .i64 0, .bool false] 31) = W0 at *
  obtain ⟨⟨r0, r1, r2, r3, r4⟩, _⟩ := row5 q0'
  have Q1 := Lib.hid q1
  have HG0 := Lib.hid hG0
  clear q0 q0' q1 g0 g1 hG0
  go_wp2_with fail
  refine (HO.out W0 HG0.out).mono ?_
  rintro e w1 ⟨b, rfl, hD1, hg1⟩
  clear r0 r1 r2 r3 r4
  simp only []
  go_wp2_with fail
  refine (devsync_any hG w1 hD1 hg1.out.size).mono ?_
  rintro e w2 ⟨rfl, hD2, hb2⟩
  simp only []
  go_wp2_with fail
  refine (done_any _ _ hD2).mono ?_
  rintro e w3 ⟨v3, rfl, hv3, hg3⟩
  obtain ⟨ev3, wv3, rfl, he3, hw3⟩ := hv3
  obtain ⟨a3, c3, rfl, he3⟩ := he3
  obtain ⟨a4, c4, rfl, hw3⟩ := hw3
  obtain ⟨r3, hgf⟩ := wrap_fin HG0.out hg1.out hb2 hg3.out Q1.out
  obtain ⟨⟨t0, t1, t2, t3, t4⟩, f0, f1, f2, f3, f4⟩ := row5 r3
  have fq := Lib.hid (row_put5 (.int .i64 (S : Nat)) (.slice a3 (exN (some (dall ws D))) c3) (.slice a4 ([] : List (Nat × ByteArray)).length c4) (.int .i64 (-1)) (.bool false) r3)
  have HGf := Lib.hid (grown_own hgf fq.out.2 (by omega))
  have HE := Lib.hid (RowAt.put (n := exN (some (dall ws D))) (R := w.heap.size + 1) ⟨a3, c3, rfl, he3⟩ (exC_head nm _) t0 fq.out.2)
  have HW := Lib.hid (RowAt.put (n := ([] : List (Nat × ByteArray)).length) (R := w.heap.size + 1) ⟨a4, c4, rfl, hw3⟩ (wsC_head nm _) t0 fq.out.2)
  clear r3 hgf he3 hw3 hg3 hb2 hD2 hD1 hg1 HO
  go_wp2_with fail
  refine bodyPost_ret (results_row_tmp (fn := Try.f9) (p := 2) (q := 3) (ty := 31) rfl _ _ (w.heap.size + 1) 31 _ _ _ rfl fq.out.1 Try.underlying31 rfl HS.out) rfl ?_
  exact ⟨_, rfl, ⟨_, _, rfl, HE.out, HW.out⟩, HGf⟩
end Go.Proofs.Ytihohljhjdmamaa
