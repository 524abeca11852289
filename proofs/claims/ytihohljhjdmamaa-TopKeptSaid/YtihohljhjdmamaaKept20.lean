/- The disk lies in a block. -/
import Derived.Test.YtihohljhjdmamaaKept14
import Derived.Test.YtihohljhjdmamaaKept18
import Derived.Test.YtihohljhjdmamaaKept19
import Derived.Test.YtihohljhjdmamaaSameN
import Derived.Test.YtihohljhjdmamaaBegins
import Derived.IntWalk
namespace Go.Proofs.Ytihohljhjdmamaa
open Go.RowKit
set_option linter.unusedVariables false

/-- the disk's value lies in block b -/
structure DskIn (W : World) (b S : Nat) (nm : ByteArray) (E : Option ByteArray) (ws : List (Nat × ByteArray)) (ev wv : Value) : Prop where
  row : W.heap[b]? = some (.cells #[.int .i64 (S : Nat), ev, wv, .int .i64 (-1), .bool false] 31 (0, 0))
  ext : RowAt W ev (exN E) (exC nm E)
  wts : RowAt W wv ws.length (wsC nm ws)
theorem DskIn.grown {W W' : World} {b S : Nat} {nm : ByteArray} {E : Option ByteArray} {ws : List (Nat × ByteArray)} {ev wv : Value} (h : DskIn W b S nm E ws ev wv) (hg : W.grownBy W' none) : DskIn W' b S nm E ws ev wv :=
  ⟨row_kept h.row hg (by simp), h.ext.grown hg, h.wts.grown hg⟩
theorem DskIn.dsk {W : World} {b S : Nat} {nm : ByteArray} {E : Option ByteArray} {ws : List (Nat × ByteArray)} {ev wv : Value} (h : DskIn W b S nm E ws ev wv) :
    DskAt W S nm E ws (.agg #[.int .i64 (S : Nat), ev, wv, .int .i64 (-1), .bool false]) := ⟨_, _, rfl, h.ext, h.wts⟩
theorem dskAt_parts {W : World} {S : Nat} {nm : ByteArray} {E : Option ByteArray} {ws : List (Nat × ByteArray)} {v : Value} (h : DskAt W S nm E ws v) :
    ∃ (ae : Option Addr) (ne ce : Nat) (aw : Option Addr) (nw cw : Nat), v = .agg #[.int .i64 (S : Nat), .slice ae ne ce, .slice aw nw cw, .int .i64 (-1), .bool false] ∧ Hid (RowAt W (.slice ae ne ce) (exN E) (exC nm E)) ∧ Hid (RowAt W (.slice aw nw cw) ws.length (wsC nm ws)) := by
  obtain ⟨ev, wv, rfl, he, hw⟩ := h
  obtain ⟨a3, c3, rfl, he⟩ := he
  obtain ⟨a4, c4, rfl, hw⟩ := hw
  exact ⟨a3, _, c3, a4, _, c4, rfl, ⟨a3, c3, rfl, he⟩, ⟨a4, c4, rfl, hw⟩⟩
/-- the disk is stored -/
theorem dsk_put {W : World} {b S : Nat} {nm : ByteArray} {E : Option ByteArray} {ws : List (Nat × ByteArray)} {ev wv : Value} {z : Int} {y1 y2 y3 y4 : Value} (hr : W.heap[b]? = some (.cells #[.int .i64 z, y1, y2, y3, y4] 31 (0, 0)))
    (he : RowAt W ev (exN E) (exC nm E)) (hw : RowAt W wv ws.length (wsC nm ws)) :
    DskIn (((((W.setCell ⟨b, 0, none⟩ (.int .i64 (S : Nat))).setCell ⟨b, 1, none⟩ ev).setCell ⟨b, 2, none⟩ wv).setCell ⟨b, 3, none⟩ (.int .i64 (-1))).setCell ⟨b, 4, none⟩ (.bool false)) b S nm E ws ev wv ∧
    W.grownBy (((((W.setCell ⟨b, 0, none⟩ (.int .i64 (S : Nat))).setCell ⟨b, 1, none⟩ ev).setCell ⟨b, 2, none⟩ wv).setCell ⟨b, 3, none⟩ (.int .i64 (-1))).setCell ⟨b, 4, none⟩ (.bool false)) (some b) := by
  obtain ⟨⟨t0, -⟩, -⟩ := row5 hr
  have f := row_put5 (.int .i64 (S : Nat)) ev wv (.int .i64 (-1)) (.bool false) hr
  exact ⟨⟨f.1, RowAt.put he (exC_head nm _) t0 f.2, RowAt.put hw (wsC_head nm _) t0 f.2⟩, f.2⟩
theorem dsk_next {W W5 : World} {b S : Nat} {nm : ByteArray} {E E' : Option ByteArray} {ws ws' : List (Nat × ByteArray)} {ev wv ev' wv' : Value} (h : DskIn W b S nm E ws ev wv) (hg : W.grownBy W5 none) (he : RowAt W5 ev' (exN E') (exC nm E')) (hw : RowAt W5 wv' ws'.length (wsC nm ws')) :
    ((W5.cell? ⟨b, 0, none⟩ = some (.int .i64 (S : Nat)) ∧ W5.cell? ⟨b, 1, none⟩ = some ev ∧ W5.cell? ⟨b, 2, none⟩ = some wv ∧ W5.cell? ⟨b, 3, none⟩ = some (.int .i64 (-1)) ∧ W5.cell? ⟨b, 4, none⟩ = some (.bool false)) ∧ W5.frozen? ⟨b, 0, none⟩ = false ∧ W5.frozen? ⟨b, 1, none⟩ = false ∧ W5.frozen? ⟨b, 2, none⟩ = false ∧ W5.frozen? ⟨b, 3, none⟩ = false ∧ W5.frozen? ⟨b, 4, none⟩ = false) ∧
    DskIn (((((W5.setCell ⟨b, 0, none⟩ (.int .i64 (S : Nat))).setCell ⟨b, 1, none⟩ ev').setCell ⟨b, 2, none⟩ wv').setCell ⟨b, 3, none⟩ (.int .i64 (-1))).setCell ⟨b, 4, none⟩ (.bool false)) b S nm E' ws' ev' wv' ∧
    W5.grownBy (((((W5.setCell ⟨b, 0, none⟩ (.int .i64 (S : Nat))).setCell ⟨b, 1, none⟩ ev').setCell ⟨b, 2, none⟩ wv').setCell ⟨b, 3, none⟩ (.int .i64 (-1))).setCell ⟨b, 4, none⟩ (.bool false)) (some b) := by
  have h5 := row_kept h.row hg (by simp)
  exact ⟨row5 h5, dsk_put h5 he hw⟩
theorem cells_other {W W' : World} {b : Nat} {x : Addr} {v : Value} {t : TypeId} {cs : Array Value} (h : W.cell? x = some v) (hg : W.grownBy W' (some b)) (hx : x.block ≠ b) : W'.cell? x = some v :=
  hg.cell h (fun e => hx (by injection e))
/-- the writes that come in -/
def MoreAt (w : World) (a : Option Addr) (n : Nat) : Prop := ∀ i, i < n → ∃ (g o : Nat) (s : ByteArray) (k : Int) (d : ByteArray), a = some ⟨g, o, none⟩ ∧ g < w.heap.size ∧ w.cell? ⟨g, o + i * 3, none⟩ = some (.string s) ∧ w.cell? ⟨g, o + i * 3 + 1, none⟩ = some (.int .i64 k) ∧ w.cell? ⟨g, o + i * 3 + 2, none⟩ = some (.string d)
def zs8 (m : Nat) : Obj := .cells (Array.replicate m (.int .u8 0)) 5
set_option maxRecDepth 100000 in
theorem run_makeBytes (m : Nat) (hm : m ≤ 1000000) (W : World) :
    (Instr.makeSlice 36 (.int .i64 (m : Int)) (.int .i64 (m : Int))).run Try.prog W = .ok (.slice (some ⟨W.heap.size, 0, none⟩) m m) (W.alloc (zs8 m)) := by
  obtain ⟨i, hi, hz0, hz1, hz2⟩ := info_parts u8Info.info
  have hr := run_make (P := Try.prog) W 36 5 i _ Try.underlying36 hi hz0 .i64 .i64 m m (by omega) (by omega) (by rw [hz2]; omega) (by omega)
  simp only [Int.toNat_natCast] at hr
  rw [hr, hz1]
  unfold zs8
  congr 3
  apply Array.ext
  · simp [madeCells]
  · intro j h1 h2
    simp [madeCells]
    show #[Value.int .u8 0][j % 1]! = _
    rw [Nat.mod_one]; rfl
def zstr (m : Nat) : ByteArray := ⟨(List.replicate m (0 : UInt8)).toArray⟩
theorem zstr_size (m : Nat) : (zstr m).size = m := by show (List.replicate m (0 : UInt8)).toArray.size = m; simp
theorem run_convZeros (m : Nat) (g : Nat) (W' : World) (hc : W'.heap[g]? = some (zs8 m)) :
    (convert 36 9 (.slice (some ⟨g, 0, none⟩) m m)).run Try.prog W' = .ok (.string (zstr m)) W' := by
  have hcell : ∀ i : Nat, i < m → W'.cell? ⟨g, i, none⟩ = some (.int .u8 0) := fun i hi => row_cell (by simpa [zs8] using hc) i _ (by simp [hi])
  have h := run_convert_bytes_back (P := Try.prog) W' 36 9 5 ⟨g, 0, none⟩ m (List.replicate m (0 : UInt8)) Try.underlying36 Try.underlying5 Try.underlying9 (fun j hj => by
    rw [add_plain, Nat.zero_add, hcell j (by simpa using hj)]; simp)
  rw [List.length_replicate] at h
  exact h
/-- a step of the world W5 that the statement draws in -/
structure Near (W W' : World) (b : Nat) (x0 x1 x2 x3 x4 : Value) : Prop where
  c0 : W'.cell? ⟨b, 0, none⟩ = some x0
  c1 : W'.cell? ⟨b, 1, none⟩ = some x1
  c2 : W'.cell? ⟨b, 2, none⟩ = some x2
  c3 : W'.cell? ⟨b, 3, none⟩ = some x3
  c4 : W'.cell? ⟨b, 4, none⟩ = some x4
set_option maxRecDepth 100000 in
set_option maxHeartbeats 4000000 in
theorem topKept_walk (a0 : Option Addr) (c0 : Nat) (l : List Nat) (s : Int) (a2 : Option Addr) (n2 c2 : Nat) (a3 : Option Addr) (n3 c3 : Nat) (K : Nat → Bool) (w : World) (hN : NumsAt w (.slice a0 l.length c0) l) (hl : ∀ x ∈ l, x < 18446744073709551616) (hn2 : n2 ≤ maxLen) (hM : MoreAt w a2 n2) (hn3 : n3 ≤ maxLen) (hB : BoolsAt w a3 n3 K) :
    Calls Try.prog 3 #[.slice a0 l.length c0, .int .i64 s, .slice a2 n2 c2, .slice a3 n3 c3] w fun e w' => e = .returned (.bool true) ∧ Below w.heap.size w w' := by
  have HR : Hid (∀ W, w.grownBy W none → Calls Try.prog 5 #[.slice a0 l.length c0] W fun e w' => ∃ (sx : ByteArray) (c : Int), e = .returned (.tuple #[.string sx, .int .i64 c]) ∧ ((c = 1 ∧ sx = ⟨#[]⟩) ∨ (c = 0 ∧ okR l = true ∧ sx = rcB l)) ∧ Hid (W.grownBy w' none)) := fun W hW => by
    cases hok : okR l with
    | false => exact (record_bad _ l hl hok W (hN.grown hW)).mono fun e w' ⟨h1, h2⟩ => ⟨_, _, h1, .inl ⟨rfl, rfl⟩, by subst h2; exact grown_self _ _⟩
    | true => exact (record_ok _ l hl hok W (hN.grown hW)).mono fun e w' ⟨h1, h2⟩ => ⟨_, _, h1, .inr ⟨rfl, rfl, rfl⟩, h2⟩
  have HN := Lib.hid hN
  have HLt := Lib.hid hl
  have HM := Lib.hid hM
  have HBo := Lib.hid hB
  have Hn2 := Lib.hid hn2
  have Hn3 := Lib.hid hn3
  obtain ⟨n, hn⟩ : ∃ n, n = l.length := ⟨_, rfl⟩
  have HnL := Lib.hid hn
  rw [← hn] at HR HN ⊢
  clear hN hl hM hB hn2 hn3 hn
  go_enter Try.func3, Try.ntmps3
  go_wp2_with fail
  refine (begins_any w).mono ?_
  rintro e w1 ⟨rfl, hb1⟩
  have hg1 : w.grownBy w1 none := grown_bel hb1 none
  simp only []
  go_wp2_with fail
  refine (HR.out w1 hg1).mono ?_
  rintro e w2 ⟨sx, c, rfl, hc, hg2⟩
  have Hc := Lib.hid hc
  have HG2 := Lib.hid (grown_trans hg1 hg2.out)
  clear hc hb1 hg1 hg2 HR
  simp only []
  go_wp2_with fail
  obtain ⟨S, hS⟩ : ∃ S, S = 8 := ⟨_, rfl⟩
  have HMk : Calls Try.prog 6 #[.int .i64 8] w2 fun e w' => ∃ v, e = .returned (.tuple #[v, .int .i64 0]) ∧ DskAt w' S nmA none [] v ∧ Hid (w2.grownBy w' none) := by
    rw [hS]; exact make_any 8 nmA (by decide) w2
  have HSz := Lib.hid hS
  clear hS
  refine HMk.mono ?_
  rintro e w3 ⟨v3, rfl, hv3, hg3⟩
  obtain ⟨ae, ne, ce, aw, nw, cw, rfl, he3, hw3⟩ := dskAt_parts hv3
  clear HMk hv3
  simp only []
  go_upto_region 5 with (fail)
  have P0 : Hid (DskIn (w3.alloc (.cells #[.int .i64 (S : Nat), .slice ae ne ce, .slice aw nw cw, .int .i64 (-1), .bool false] 31)) w3.heap.size S nmA none [] (.slice ae ne ce) (.slice aw nw cw)) :=
    ⟨heap_alloc_new w3 _, he3.out.grown (World.grownBy_alloc w3 _ none), hw3.out.grown (World.grownBy_alloc w3 _ none)⟩
  have HG4 : Hid (w.grownBy (w3.alloc (.cells #[.int .i64 (S : Nat), .slice ae ne ce, .slice aw nw cw, .int .i64 (-1), .bool false] 31)) none) := grown_trans HG2.out (grown_trans hg3.out (World.grownBy_alloc w3 _ none))
  have Hb : Hid (w.heap.size ≤ w3.heap.size) := Nat.le_trans HG2.out.size hg3.out.size
  clear hg3 he3 hw3
  generalize w3.alloc (.cells #[.int .i64 (S : Nat), .slice ae ne ce, .slice aw nw cw, .int .i64 (-1), .bool false] 31) = W4 at *
  generalize w3.heap.size = b at *
  clear HG2
  obtain ⟨⟨t0, t1, t2, t3, t4⟩, f0, f1, f2, f3, f4⟩ := row5 P0.out.row
  go_wp2_with fail
  have HNw : Calls Try.prog 7 #[.agg #[.int .i64 (S : Nat), .slice ae ne ce, .slice aw nw cw, .int .i64 (-1), .bool false], .string ⟨#[97]⟩, .int .i64 4] W4 fun e w' => ∃ (v' : Value) (D : ByteArray), D.size = 64 * 4 ∧ e = .returned (.tuple #[v', .int .i64 0]) ∧ DskAt w' S nmA (some D) [] v' ∧ Hid (W4.grownBy w' none) :=
    new_disk (by rw [HSz.out]; exact good8n) 4 (by decide) (by rw [HSz.out]; decide) _ W4 P0.out.dsk
  refine HNw.mono ?_
  rintro e w5 ⟨v5, D, hD, rfl, hv5, hg5⟩
  obtain ⟨ae5, ne5, ce5, aw5, nw5, cw5, rfl, he5, hw5⟩ := dskAt_parts hv5
  have HD := Lib.hid hD
  clear HNw hv5 hD t0 t1 t2 t3 t4 f0 f1 f2 f3 f4
  obtain ⟨⟨⟨t0, t1, t2, t3, t4⟩, f0, f1, f2, f3, f4⟩, p5, q5⟩ := dsk_next P0.out hg5.out he5.out hw5.out
  have P5 := Lib.hid p5
  have HG5 : Hid (w.grownBy _ none) := grown_own (grown_trans HG4.out hg5.out) q5 Hb.out
  clear p5 q5 P0 HG4 he5 hw5 hg5
  simp only []
  go_upto_region 6 with (fail)
  clear t0 t1 t2 t3 t4 f0 f1 f2 f3 f4
  generalize ((((w5.setCell ⟨b, 0, none⟩ (.int .i64 (S : Nat))).setCell ⟨b, 1, none⟩ (.slice ae5 ne5 ce5)).setCell ⟨b, 2, none⟩ (.slice aw5 nw5 cw5)).setCell ⟨b, 3, none⟩ (.int .i64 (-1))).setCell ⟨b, 4, none⟩ (.bool false) = W5 at *
  rcases Hc.out with ⟨rfl, rfl⟩ | ⟨rfl, hok, rfl⟩
  · have Hgf : Hid (Below w.heap.size w W5) := bel_grown HG5.out (Nat.le_refl _)
    go_wp2_with fail
    go_ret
    exact ⟨rfl, Hgf.out⟩
  · obtain ⟨hl1, hl8, hbad⟩ : 1 ≤ n ∧ n ≤ 8 ∧ bad l = false := by
      rw [HnL.out]
      unfold okR at hok
      simpa [and_assoc] using hok
    have hsz : (rcB l).size = 5 * n := by rw [rcB_size, HnL.out]
    have Hbad := Lib.hid hbad
    have Hrc : Hid (∃ R, R = rcB l) := ⟨_, rfl⟩
    obtain ⟨R, hR⟩ := Hrc.out
    rw [← hR] at hsz ⊢
    have HR := Lib.hid hR
    clear hok Hc hbad Hrc hR
    obtain ⟨m, hm⟩ : ∃ m, m = 64 - 5 * n := ⟨_, rfl⟩
    have hwm : IntKind.i64.wrap (64 - (R.size : Int)) = (m : Int) := by rw [hsz, IntWalk.i64_in _ (by omega)]; omega
    have hmk := fun W => run_makeBytes m (by omega) W
    have hxs : (R ++ zstr m).size = 64 := by rw [ByteArray.size_append, zstr_size, hsz]; omega
    have HWr : Hid (∀ W, W5.grownBy W none → Calls Try.prog 8 #[.agg #[.int .i64 (S : Nat), .slice ae5 ne5 ce5, .slice aw5 nw5 cw5, .int .i64 (-1), .bool false], .string ⟨#[97]⟩, .int .i64 s, .string (R ++ zstr m)] W fun e w' => ∃ (ae : Option Addr) (ne ce : Nat) (aw : Option Addr) (nw cw : Nat) (c : Int) (ws : List (Nat × ByteArray)), e = .returned (.tuple #[.agg #[.int .i64 (S : Nat), .slice ae ne ce, .slice aw nw cw, .int .i64 (-1), .bool false], .int .i64 c]) ∧ ((c ≠ 0 ∧ (s < 0 ∨ 3 < s) ∧ ws = []) ∨ (c = 0 ∧ 0 ≤ s ∧ s ≤ 3 ∧ ws = [(s.toNat, R ++ zstr m)])) ∧ Hid (RowAt w' (.slice ae ne ce) (exN (some D)) (exC nmA (some D))) ∧ Hid (RowAt w' (.slice aw nw cw) ws.length (wsC nmA ws)) ∧ Hid (W.grownBy w' none)) := fun W hW => by
      have hG : Good S nmA (some D) [] := by rw [HSz.out]; exact good8 HD.out (by simp) (fun p hp => by simp at hp)
      have hP := (P5.out.grown hW).dsk
      by_cases hs : 0 ≤ s ∧ s ≤ 3
      · obtain ⟨q, rfl⟩ : ∃ q : Nat, s = (q : Int) := ⟨s.toNat, by omega⟩
        refine (write_disk hG q (R ++ zstr m) HD.out (by omega) hxs (by simp) _ W hP).mono ?_
        rintro e w' ⟨v', rfl, hv, hg⟩
        obtain ⟨ae, ne, ce, aw, nw, cw, rfl, he, hw⟩ := dskAt_parts hv
        exact ⟨ae, ne, ce, aw, nw, cw, 0, _, rfl, .inr ⟨rfl, hs.1, hs.2, rfl⟩, he, hw, hg⟩
      · refine (write_disk_bad hG nmA s (R ++ zstr m) (fun ⟨⟨D', e1, _, h0, h1⟩, _⟩ => by
          injection e1 with e1
          have := HD.out
          rw [← e1] at h1
          omega) _ W hP).mono ?_
        rintro e w' ⟨v', c, hc, rfl, hv, hg⟩
        obtain ⟨ae, ne, ce, aw, nw, cw, rfl, he, hw⟩ := dskAt_parts hv
        exact ⟨ae, ne, ce, aw, nw, cw, c, _, rfl, .inl ⟨by omega, by omega, rfl⟩, he, hw, hg⟩
    have hcat : ¬ (9223372036854775807 < R.size + (zstr m).size) := by rw [zstr_size, hsz]; omega
    have Hm := Lib.hid hm
    have Hxs := Lib.hid hxs
    have Hsz := Lib.hid hsz
    have Hl1 := Lib.hid hl1
    have Hl8 := Lib.hid hl8
    clear hm hsz hl1 hl8 hxs
    go_upto_region 8 with (fail)
    obtain ⟨⟨t0, t1, t2, t3, t4⟩, -⟩ := row5 P5.out.row
    have hblt := row_lt P5.out.row
    obtain ⟨⟨z0, z1, z2, z3, z4⟩, -⟩ := row5 (P5.out.grown (World.grownBy_alloc W5 (zs8 m) none)).row
    obtain ⟨⟨y0, y1, y2, y3, y4⟩, -⟩ := row5 (P5.out.grown (World.grownBy_alloc W5.drew (zs8 m) none |> grown_trans (grown_drew W5 none))).row
    have hcv0 := run_convZeros m W5.heap.size (W5.alloc (zs8 m)) (heap_alloc_new W5 _)
    have hcv1 := run_convZeros m W5.heap.size (W5.drew.alloc (zs8 m)) (heap_alloc_new W5.drew _)
    have hcv2 := run_convZeros m W5.heap.size (W5.alloc (zs8 m)).drew (heap_alloc_new W5 _)
    have HgA : Hid (W5.grownBy (W5.alloc (zs8 m)) none) := World.grownBy_alloc W5 _ none
    have HgB : Hid (W5.grownBy (W5.drew.alloc (zs8 m)) none) := grown_trans (grown_drew W5 none) (World.grownBy_alloc W5.drew _ none)
    have HgC : Hid (W5.grownBy (W5.alloc (zs8 m)).drew none) := grown_trans (World.grownBy_alloc W5 _ none) (grown_drew _ none)
    go_region_law (first
      | (go_simp; go_at_call 8; refine (HWr.out _ (by first | with_reducible exact HgC.out | with_reducible exact HgA.out | with_reducible exact HgB.out)).mono ?_; rintro e w6 ⟨ae6, ne6, ce6, aw6, nw6, cw6, c6, ws6, rfl, hq6, he6, hw6, hg6⟩; have g6 : W5.grownBy w6 none := (by first | with_reducible exact grown_trans HgC.out hg6.out | with_reducible exact grown_trans HgA.out hg6.out | with_reducible exact grown_trans HgB.out hg6.out); obtain ⟨⟨⟨x0, x1, x2, x3, x4⟩, m0, m1, m2, m3, m4⟩, p6, q6⟩ := dsk_next P5.out g6 he6.out hw6.out; have P6 := Lib.hid p6; have G6 := Lib.hid g6; have Q6 := Lib.hid q6; have HQ6 := Lib.hid hq6; clear p6 g6 q6 hq6 he6 hw6 hg6))
    all_goals
      have HG6 : Hid (w.grownBy _ none) := grown_own (grown_trans HG5.out G6.out) Q6.out Hb.out
      clear t0 t1 t2 t3 t4 z0 z1 z2 z3 z4 y0 y1 y2 y3 y4 x0 x1 x2 x3 x4 m0 m1 m2 m3 m4 hcv0 hcv1 hcv2 hmk hcat hwm HgA HgB HgC Q6 G6 HWr P5 HG5 hblt
      generalize ((((w6.setCell ⟨b, 0, none⟩ (.int .i64 (S : Nat))).setCell ⟨b, 1, none⟩ (.slice ae6 ne6 ce6)).setCell ⟨b, 2, none⟩ (.slice aw6 nw6 cw6)).setCell ⟨b, 3, none⟩ (.int .i64 (-1))).setCell ⟨b, 4, none⟩ (.bool false) = W6 at *
      rcases HQ6.out with ⟨hc6, hs6, rfl⟩ | ⟨rfl, hs0, hs3, rfl⟩
      · have Hgf : Hid (Below w.heap.size w W6) := bel_grown HG6.out (Nat.le_refl _)
        rcases hs6 with hs6 | hs6
        · go_wp2_with fail
          go_ret
          exact ⟨rfl, Hgf.out⟩
        · have hs7 : ¬ s < 0 := by omega
          go_wp2_with fail
          go_ret
          exact ⟨rfl, Hgf.out⟩
      · obtain ⟨q, rfl⟩ : ∃ q : Nat, s = (q : Int) := ⟨s.toNat, by omega⟩
        have hq4 : q < 4 := by omega
        rw [Int.toNat_natCast] at P6 HQ6
        have Hs0 := Lib.hid hs0
        have Hs3 := Lib.hid hs3
        clear HQ6 hs0 hs3
        obtain ⟨hd1, -⟩ := dall_one (D := D) Hxs.out (q := q) (by rw [HD.out]; omega)
        have HSy : Calls Try.prog 9 #[.agg #[.int .i64 (S : Nat), .slice ae6 ne6 ce6, .slice aw6 nw6 cw6, .int .i64 (-1), .bool false]] W6 fun e w' => ∃ (v' : Value), e = .returned (.tuple #[v', .int .i64 0]) ∧ DskAt w' S nmA (some (dall [(q, R ++ zstr m)] D)) [] v' ∧ Hid (W6.grownBy w' none) :=
          sync_disk (by rw [HSz.out]; exact good8 HD.out (by simp) (fun p hp => by simp at hp; subst hp; exact ⟨by rw [HD.out]; show 64 * q + 64 ≤ _; omega, Hxs.out⟩)) _ W6 P6.out.dsk
        obtain ⟨D1, hD1⟩ : ∃ D1, D1 = dall [(q, R ++ zstr m)] D := ⟨_, rfl⟩
        rw [← hD1] at HSy hd1
        have HD1 := Lib.hid hD1
        have HDs : Hid (D1.size = 64 * 4) := hd1.trans HD.out
        obtain ⟨⟨t0, t1, t2, t3, t4⟩, -⟩ := row5 P6.out.row
        clear hD1 hd1
        go_wp2_with fail
        refine HSy.mono ?_
        rintro e w7 ⟨v7, rfl, hv7, hg7⟩
        obtain ⟨ae7, ne7, ce7, aw7, nw7, cw7, rfl, he7, hw7⟩ := dskAt_parts hv7
        clear HSy hv7 t0 t1 t2 t3 t4
        obtain ⟨⟨⟨t0, t1, t2, t3, t4⟩, f0, f1, f2, f3, f4⟩, p7, q7⟩ := dsk_next P6.out hg7.out he7.out hw7.out
        have P7 := Lib.hid p7
        have HG7 : Hid (w.grownBy _ none) := grown_own (grown_trans HG6.out hg7.out) q7 Hb.out
        clear p7 q7 P6 HG6 he7 hw7 hg7
        simp only []
        go_upto_region 12 with (fail)
        clear t0 t1 t2 t3 t4 f0 f1 f2 f3 f4
        generalize ((((w7.setCell ⟨b, 0, none⟩ (.int .i64 (S : Nat))).setCell ⟨b, 1, none⟩ (.slice ae7 ne7 ce7)).setCell ⟨b, 2, none⟩ (.slice aw7 nw7 cw7)).setCell ⟨b, 3, none⟩ (.int .i64 (-1))).setCell ⟨b, 4, none⟩ (.bool false) = W7 at *
        go_wp2_with fail
        go_loopw [79] (fun iv wr => ∃ k : Nat, iv = .int .i64 (k : Nat) ∧ k ≤ n2 ∧ ∃ (ae : Option Addr) (ne ce : Nat) (aw : Option Addr) (nw cw : Nat) (ws : List (Nat × ByteArray)), Hid (DskIn wr b S nmA (some D1) ws (.slice ae ne ce) (.slice aw nw cw)) ∧ Hid (w.grownBy wr none) ∧ Hid (ws.length ≤ k ∧ ws.length ≤ 20) ∧ Hid (∀ p ∈ ws, p.1 ≠ q ∧ 64 * p.1 + 64 ≤ D.size ∧ p.2.size = 64)) (fun iv _ => n2 - (intOf iv).toNat)
        case atStart => exact ⟨0, rfl, Nat.zero_le _, ae7, ne7, ce7, aw7, nw7, cw7, [], P7, HG7, ⟨Nat.le_refl _, Nat.zero_le _⟩, fun p hp => by cases hp⟩
        case round =>
          clear P7 HG7
          obtain ⟨k, rfl, hk, ae8, ne8, ce8, aw8, nw8, cw8, ws8, hP8, hG8, hL8, hW8⟩ := hrel
          by_cases hlt : k < n2
          · obtain ⟨gx, ox, s8, k8, d8, rfl, hxl, cx0, cx1, cx2⟩ := HM.out k hlt
            have kx0 := hG8.out.cell cx0 (by simp)
            have kx1 := hG8.out.cell cx1 (by simp)
            have kx2 := hG8.out.cell cx2 (by simp)
            have hki : (k : Int) < (n2 : Int) := by omega
            have hn2m := Hn2.out
            unfold maxLen at hn2m
            clear cx0 cx1 cx2
            go_upto_region 15 with (fail)
            have hP9 := hP8.out.grown (World.grownBy_alloc wr (.cells #[.string s8, .int .i64 k8, .string d8] 39) none)
            have hG9 := grown_trans hG8.out (World.grownBy_alloc wr (.cells #[.string s8, .int .i64 k8, .string d8] 39) none)
            have q9 := heap_alloc_new wr (.cells #[.string s8, .int .i64 k8, .string d8] 39)
            have HP9 := Lib.hid hP9
            have HG9 := Lib.hid hG9
            have cb0 := row_cell q9 0 _ rfl
            have cb1 := row_cell q9 1 _ rfl
            have cb2 := row_cell q9 2 _ rfl
            clear kx0 kx1 kx2 hP9 hG9 q9 hP8 hG8
            generalize wr.alloc (.cells #[.string s8, .int .i64 k8, .string d8] 39) = W9 at *
            generalize wr.heap.size = B9 at *
            by_cases h20 : k < 20
            · have hk20 : (k : Int) < 20 := by omega
              have HWr : Hid (¬ (s8 = nmA ∧ k8 = (q : Int)) → Calls Try.prog 8 #[.agg #[.int .i64 (S : Nat), .slice ae8 ne8 ce8, .slice aw8 nw8 cw8, .int .i64 (-1), .bool false], .string s8, .int .i64 k8, .string d8] W9 fun e w' => ∃ (ae : Option Addr) (ne ce : Nat) (aw : Option Addr) (nw cw : Nat) (c : Int) (ws : List (Nat × ByteArray)), e = .returned (.tuple #[.agg #[.int .i64 (S : Nat), .slice ae ne ce, .slice aw nw cw, .int .i64 (-1), .bool false], .int .i64 c]) ∧ Hid (ws.length ≤ k + 1 ∧ ws.length ≤ 20) ∧ Hid (∀ p ∈ ws, p.1 ≠ q ∧ 64 * p.1 + 64 ≤ D.size ∧ p.2.size = 64) ∧ Hid (RowAt w' (.slice ae ne ce) (exN (some D1)) (exC nmA (some D1))) ∧ Hid (RowAt w' (.slice aw nw cw) ws.length (wsC nmA ws)) ∧ Hid (W9.grownBy w' none)) := fun hne => by
                have hL := hL8.out
                have hG : Good S nmA (some D1) ws8 := by rw [HSz.out]; exact good8 HDs.out (by omega) (fun p hp => by rw [HDs.out, ← HD.out]; exact (hW8.out p hp).2)
                by_cases hp : plOk nmA (some D1) s8 k8 ∧ d8.size = 64
                · obtain ⟨⟨D', e1, e2, h0, h1⟩, hd⟩ := hp
                  injection e1 with e1
                  subst e1
                  have e3 := isA_eq e2
                  subst e3
                  obtain ⟨r, rfl⟩ : ∃ r : Nat, k8 = (r : Int) := ⟨k8.toNat, by omega⟩
                  have hds := HDs.out
                  refine (write_disk hG r d8 HDs.out (by omega) hd (by omega) _ W9 HP9.out.dsk).mono ?_
                  rintro e w' ⟨v', rfl, hv, hg⟩
                  obtain ⟨ae, ne, ce, aw, nw, cw, rfl, he, hw⟩ := dskAt_parts hv
                  refine ⟨ae, ne, ce, aw, nw, cw, 0, _, rfl, ?_, ?_, he, hw, hg⟩
                  · show _ ∧ _
                    simp only [List.length_append, List.length_cons, List.length_nil]
                    omega
                  · intro p hp
                    rcases List.mem_append.1 hp with hp | hp
                    · exact hW8.out p hp
                    · obtain rfl : p = (r, d8) := by simpa using hp
                      refine ⟨fun e => hne ⟨rfl, ?_⟩, ?_, hd⟩
                      · show (r : Int) = (q : Int)
                        have e : r = q := e
                        rw [e]
                      · show 64 * r + 64 ≤ D.size
                        rw [HD.out]
                        omega
                · refine (write_disk_bad hG s8 k8 d8 hp _ W9 HP9.out.dsk).mono ?_
                  rintro e w' ⟨v', c, hc, rfl, hv, hg⟩
                  obtain ⟨ae, ne, ce, aw, nw, cw, rfl, he, hw⟩ := dskAt_parts hv
                  exact ⟨ae, ne, ce, aw, nw, cw, c, _, rfl, ⟨Nat.le_succ_of_le hL.1, hL.2⟩, hW8.out, he, hw, hg⟩
              obtain ⟨⟨t0, t1, t2, t3, t4⟩, -⟩ := row5 HP9.out.row
              by_cases hn : s8.toList = [97]
              · by_cases hkq : k8 = (q : Int)
                · have hkb : (k8 != (q : Int)) = false := by simp [hkq]
                  clear HWr
                  clear hkq
                  go_wp2_with fail
                  exact ⟨⟨k + 1, by rw [Int.natCast_add]; rfl, by omega, _, _, _, _, _, _, ws8, HP9, HG9, ⟨Nat.le_succ_of_le hL8.out.1, hL8.out.2⟩, hW8⟩, by simp [intOf] <;> omega⟩
                · have hkb : (k8 != (q : Int)) = true := by simpa using hkq
                  have hne : ¬ (s8 = nmA ∧ k8 = (q : Int)) := fun h => hkq h.2
                  clear hkq
                  go_wp2_with fail
                  refine (HWr.out hne).mono ?_
                  rintro e wA ⟨aeA, neA, ceA, awA, nwA, cwA, cA, wsA, rfl, hlA, hwsA, heA, hwA, hgA⟩
                  clear t0 t1 t2 t3 t4
                  obtain ⟨⟨⟨t0, t1, t2, t3, t4⟩, f0, f1, f2, f3, f4⟩, pA, qA⟩ := dsk_next HP9.out hgA.out heA.out hwA.out
                  have PA := Lib.hid pA
                  have HGA : Hid (w.grownBy _ none) := grown_own (grown_trans HG9.out hgA.out) qA Hb.out
                  clear pA qA HP9 HG9 heA hwA hgA HWr cb0 cb1 cb2
                  simp only []
                  go_wp2_with fail
                  exact ⟨⟨k + 1, by rw [Int.natCast_add]; rfl, by omega, _, _, _, _, _, _, _, PA, HGA, hlA, hwsA⟩, by simp [intOf] <;> omega⟩
              · have hne : ¬ (s8 = nmA ∧ k8 = (q : Int)) := fun h => hn (by rw [h.1, ByteArray.toList_eq]; rfl)
                go_wp2_with fail
                refine (HWr.out hne).mono ?_
                rintro e wA ⟨aeA, neA, ceA, awA, nwA, cwA, cA, wsA, rfl, hlA, hwsA, heA, hwA, hgA⟩
                clear t0 t1 t2 t3 t4
                obtain ⟨⟨⟨t0, t1, t2, t3, t4⟩, f0, f1, f2, f3, f4⟩, pA, qA⟩ := dsk_next HP9.out hgA.out heA.out hwA.out
                have PA := Lib.hid pA
                have HGA : Hid (w.grownBy _ none) := grown_own (grown_trans HG9.out hgA.out) qA Hb.out
                clear pA qA HP9 HG9 heA hwA hgA HWr cb0 cb1 cb2
                simp only []
                go_wp2_with fail
                exact ⟨⟨k + 1, by rw [Int.natCast_add]; rfl, by omega, _, _, _, _, _, _, _, PA, HGA, hlA, hwsA⟩, by simp [intOf] <;> omega⟩
            · have hk20 : (20 : Int) ≤ (k : Int) := by omega
              go_wp2_with fail
              exact ⟨⟨k + 1, by rw [Int.natCast_add]; rfl, by omega, _, _, _, _, _, _, ws8, HP9, HG9, ⟨Nat.le_succ_of_le hL8.out.1, hL8.out.2⟩, hW8⟩, by simp [intOf] <;> omega⟩
          · obtain rfl : k = n2 := by omega
            have hkk : (k : Int) ≤ (k : Int) := Int.le_refl _
            have hx64 := Hxs.out
            have hds := HDs.out
            have hdd := HD.out
            have hwD1 : ∀ p ∈ ws8, 64 * p.1 + 64 ≤ D1.size ∧ p.2.size = 64 := fun p hp => by rw [hds, ← hdd]; exact (hW8.out p hp).2
            have hL := hL8.out
            obtain ⟨D2, hD2⟩ : ∃ D2, D2 = dn (kp n3 K) ws8 D1 := ⟨_, rfl⟩
            have hd2 : D2.size = 64 * 4 := by rw [hD2, dn_size hwD1, hds]
            have hrd : D2.extract (64 * q) (64 * q + 64) = R ++ zstr m := by
              rw [hD2, HD1.out]
              exact kept_read hx64 (by omega) (fun p hp => hW8.out p hp)
            have HCr : Calls Try.prog 10 #[.agg #[.int .i64 (S : Nat), .slice ae8 ne8 ce8, .slice aw8 nw8 cw8, .int .i64 (-1), .bool false], .slice a3 n3 c3] wr fun e w' => ∃ (v' : Value), e = .returned (.tuple #[v', .int .i64 0]) ∧ DskAt w' S nmA (some D2) [] v' ∧ Hid (wr.grownBy w' none) := by
              rw [hD2]
              exact crash_disk (by rw [HSz.out]; exact good8 hds (by omega) hwD1) a3 n3 c3 K Hn3.out _ wr hP8.out.dsk (HBo.out.grown hG8.out)
            have Hd2 := Lib.hid hd2
            have Hrd := Lib.hid hrd
            clear hx64 hds hdd hwD1 hL hD2 hd2 hrd
            obtain ⟨⟨t0, t1, t2, t3, t4⟩, -⟩ := row5 hP8.out.row
            go_wp2_with fail
            refine HCr.mono ?_
            rintro e wA ⟨vA, rfl, hvA, hgA⟩
            obtain ⟨aeA, neA, ceA, awA, nwA, cwA, rfl, heA, hwA⟩ := dskAt_parts hvA
            clear HCr hvA t0 t1 t2 t3 t4
            obtain ⟨⟨⟨t0, t1, t2, t3, t4⟩, f0, f1, f2, f3, f4⟩, pA, qA⟩ := dsk_next hP8.out hgA.out heA.out hwA.out
            have PA := Lib.hid pA
            have HGA : Hid (w.grownBy _ none) := grown_own (grown_trans hG8.out hgA.out) qA Hb.out
            clear pA qA hP8 hG8 heA hwA hgA
            simp only []
            go_upto_region 19 with (fail)
            clear t0 t1 t2 t3 t4 f0 f1 f2 f3 f4
            generalize ((((wA.setCell ⟨b, 0, none⟩ (.int .i64 (S : Nat))).setCell ⟨b, 1, none⟩ (.slice aeA neA ceA)).setCell ⟨b, 2, none⟩ (.slice awA nwA cwA)).setCell ⟨b, 3, none⟩ (.int .i64 (-1))).setCell ⟨b, 4, none⟩ (.bool false) = WA at *
            obtain ⟨⟨t0, t1, t2, t3, t4⟩, -⟩ := row5 PA.out.row
            obtain ⟨xx, hxx⟩ : ∃ xx, xx = R ++ zstr m := ⟨_, rfl⟩
            have hxs : xx.size = 64 := by rw [hxx]; exact Hxs.out
            have HRd : Calls Try.prog 11 #[.agg #[.int .i64 (S : Nat), .slice aeA neA ceA, .slice awA nwA cwA, .int .i64 (-1), .bool false], .string ⟨#[97]⟩, .int .i64 (q : Nat)] WA fun e w' => e = .returned (.tuple #[.string xx, .int .i64 0]) ∧ Hid (WA.grownBy w' none) := by
              have h := read_disk (S := S) (by rw [HSz.out]; exact good8 Hd2.out (by simp) (fun p hp => by simp at hp)) q Hd2.out hq4 _ WA PA.out.dsk
              rw [Hrd.out, ← hxx] at h
              exact h
            have Hxx := Lib.hid hxx
            have hxsi : ((xx.size : Nat) : Int) = 64 := by omega
            have Hxs2 := Lib.hid hxs
            clear hxx hxs
            go_wp2_with fail
            refine HRd.mono ?_
            rintro e wB ⟨rfl, hgB⟩
            clear HRd t0 t1 t2 t3 t4
            have HGB : Hid (w.grownBy wB none) := grown_trans HGA.out hgB.out
            have hRs : R.size ≤ xx.size := by have := Hsz.out; have := Hl8.out; have := Hxs2.out; omega
            have hRi : (R.size : Int) ≤ 64 := by have := Hxs2.out; omega
            have hR0 : 0 ≤ (R.size : Int) := by omega
            simp only []
            go_wp2_with fail
            have HSp : Calls Try.prog 12 #[.string (xx.extract 0 R.size), .int .i64 (n : Nat)] wB fun e w' => ∃ (g cap : Nat) (v : Value), e = .returned (.tuple #[.slice (some ⟨g, 0, none⟩) 1 cap, .int .i64 0]) ∧ w'.cell? ⟨g, 0, none⟩ = some v ∧ NumsAt w' v l ∧ Hid (wB.grownBy w' none) := by
              have e1 : xx.extract 0 R.size = R := by
                rw [Hxx.out]
                apply bytes_ext
                obtain ⟨⟨rl⟩⟩ := R
                obtain ⟨⟨zl⟩⟩ := zstr m
                simp [ByteArray.size]
              rw [e1, HR.out, HnL.out]
              exact split_ok (rcB l) l (by simp [rcB]) (by rw [← HnL.out]; exact Hl1.out) (by rw [← HnL.out]; exact Hl8.out) (fun x hx => by
                have hb := Hbad.out
                unfold bad at hb
                rw [List.any_eq_false] at hb
                have := hb x hx
                simp at this
                omega) wB
            refine HSp.mono ?_
            rintro e wC ⟨gC, cC, vC, rfl, hcC, hnC, hgC⟩
            have HSm := same_one wC vC (.slice a0 n c0) l hnC (HN.out.grown (grown_trans HGB.out hgC.out))
            have HGC : Hid (w.grownBy wC none) := grown_trans HGB.out hgC.out
            clear HSp hnC hgC
            simp only []
            go_wp2_with fail
            refine HSm.mono ?_
            rintro e wD ⟨rfl, nD, rfl⟩
            have HGD : Hid (Below w.heap.size w (wC.drewN nD)) := bel_grown (grown_trans HGC.out (grown_drewN wC nD none)) (Nat.le_refl _)
            simp only []
            go_wp2_with fail
            go_ret
            exact ⟨rfl, HGD.out⟩
end Go.Proofs.Ytihohljhjdmamaa
