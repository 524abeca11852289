/- Some of what waits is done. -/
import Derived.Test.YtihohljhjdmamaaGreatKept10
namespace Go.Proofs.YtihohljhjdmamaaGreat
open Go.RowKit
set_option linter.unusedVariables false

/-- 'string(b)' of such bytes, in a region that draws its order -/
theorem step_conv_bytesF {P : Program} {ops : Array Oper} {o : Oper} {a : Act} {w : World} {K : Act → World → Prop} {Q : Exit → Act → World → Prop} {E : Prop} (hgd : o.guard = none) (src dst e : TypeId) (x : Operand) (ho : o.op = .convert src dst x)
    (hs : P.underlying src = some (.slice e)) (he : P.underlying e = some (.int .u8)) (hd : P.underlying dst = some .string)
    (B g n cap : Nat) (hx : a.eval x = .slice (some ⟨g, 0, none⟩) n cap) (L : List UInt8) (hb : BytesF w B (.slice (some ⟨g, 0, none⟩) n cap) L)
    (h : K (a.put o.dst (.string ⟨L.toArray⟩)) w) :
    if Region.wanted o (yielded ops a.tmps) = true then Oper.wp P o a w K Q else E := by
  have hw : Region.wanted o (yielded ops a.tmps) = true := by simp [Region.wanted, hgd]
  rw [if_pos hw]
  obtain ⟨g', cap', h1, _, _, h4⟩ := hb
  injection h1 with e1 e2 e3
  injection e1 with e1
  injection e1 with e1
  subst e1 e2 e3
  have hrun := run_convert_bytes_back (P := P) w src dst e ⟨g, 0, none⟩ cap L hs he hd (fun j hj => by rw [add_plain, Nat.zero_add]; exact (h4 j hj).1)
  unfold Oper.wp execOp
  simp only [ho, hx, hrun, Sem.run_bind, Sem.run_pure, Result.andThen_ok]
  exact h
/-- the bytes behind the first k writes, those that are kept done -/
def stl (K : Nat → Bool) (ws : List (Nat × ByteArray)) (L : List UInt8) : Nat → List UInt8
  | 0 => L
  | k + 1 => if K k = true then spl (stl K ws L k) (64 * (ws.getD k (0, ⟨#[]⟩)).1) (ws.getD k (0, ⟨#[]⟩)).2.data.toList else stl K ws L k
theorem stl_length {K : Nat → Bool} {ws : List (Nat × ByteArray)} {L : List UInt8} (h : ∀ p ∈ ws, 64 * p.1 + 64 ≤ L.length ∧ p.2.size = 64) : ∀ k, k ≤ ws.length → (stl K ws L k).length = L.length
  | 0, _ => rfl
  | k + 1, hk => by
    have ih := stl_length (K := K) h k (by omega)
    have hp := h (ws.getD k (0, ⟨#[]⟩)) (by simp [List.getD, show k < ws.length by omega])
    rw [stl]
    split
    · rw [spl_length (by rw [size_data, ih, hp.2]; exact hp.1), ih]
    · exact ih
/-- what is done, of n writes -/
def dn (K : Nat → Bool) (ws : List (Nat × ByteArray)) (D : ByteArray) : ByteArray := ⟨(stl K ws D.data.toList ws.length).toArray⟩
/-- the bytes at work: none yet, or these -/
def Dst (K : Nat → Bool) (ws : List (Nat × ByteArray)) (L : List UInt8) (B : Nat) (w : World) (v : Value) (k : Nat) : Prop :=
  (v = .slice none 0 0 ∧ stl K ws L k = L) ∨ ∃ g cap, v = .slice (some ⟨g, 0, none⟩) L.length cap ∧ BytesF w B v (stl K ws L k)
theorem Dst.kept {K : Nat → Bool} {ws : List (Nat × ByteArray)} {L : List UInt8} {B k : Nat} {w w' : World} {v : Value} (h : Dst K ws L B w v k) (hg : w.grownBy w' none) (h0 : 0 < (stl K ws L k).length) : Dst K ws L B w' v k := by
  rcases h with h | ⟨g, cap, rfl, h2⟩
  · exact .inl h
  · exact .inr ⟨g, cap, rfl, h2.kept hg (by simp) h0⟩
theorem Dst.skip {K : Nat → Bool} {ws : List (Nat × ByteArray)} {L : List UInt8} {B k : Nat} {w : World} {v : Value} (h : Dst K ws L B w v k) (hK : K k = false) : Dst K ws L B w v (k + 1) := by
  have e : stl K ws L (k + 1) = stl K ws L k := by rw [stl, hK]; simp
  unfold Dst
  rw [e]
  exact h
theorem BytesF.facts {w : World} {B g n cap : Nat} {L : List UInt8} (h : BytesF w B (.slice (some ⟨g, 0, none⟩) n cap) L) : L.length ≤ cap ∧ n = L.length ∧ B ≤ g := by
  obtain ⟨g', cap', h1, h2, h3, _⟩ := h
  injection h1 with e1 e2 e3
  injection e1 with e1
  injection e1 with e1
  subst e1 e2 e3
  exact ⟨h2, rfl, h3⟩
theorem settle_fin {B b S : Nat} {nm D : ByteArray} {D' : ByteArray} {ws : List (Nat × ByteArray)} {ge ce : Nat} {aw : Option Addr} {cw : Nat} {w w1 : World} (hBb : B ≤ b) (hBw : B ≤ w.heap.size)
    (h1 : w.heap[b]? = some (.cells #[.int .i64 (S : Nat), .slice (some ⟨ge, 0, none⟩) 1 ce, .slice aw ws.length cw, .int .i64 (-1), .bool false] 59 (0, 0)))
    (h2 : w.ownsRow B 62 2 (.slice (some ⟨ge, 0, none⟩) 1 ce) 1 [.string nm, .string D]) (hg : w.grownBy w1 none) (hD : D' = D ∨ True) (w2 : World) (hw2 : w2 = w1 ∧ D' = D ∨ w2 = w1.setCell ⟨ge, 1, none⟩ (.string D')) :
    w2.heap[b]? = some (.cells #[.int .i64 (S : Nat), .slice (some ⟨ge, 0, none⟩) 1 ce, .slice aw ws.length cw, .int .i64 (-1), .bool false] 59 (0, 0)) ∧ w2.ownsRow B 62 2 (.slice (some ⟨ge, 0, none⟩) 1 ce) 1 [.string nm, .string D'] ∧ Below B w w2 ∧ w1.heap.size ≤ w2.heap.size ∧
      DevAt (w2.setCell ⟨b, 2, none⟩ (.slice none 0 0)) B b S nm (some D') [] ∧ Below B w (w2.setCell ⟨b, 2, none⟩ (.slice none 0 0)) := by
  have r1 := row_kept h1 hg (by simp)
  have o1 := own_keep h2 hg (Nat.le_refl _)
  have b1 : Below B w w1 := bel_grown hg hBw
  have hBg : B ≤ ge := (World.ownsRow.lt h2 ge rfl).1
  have key : w2.heap[b]? = some (.cells #[.int .i64 (S : Nat), .slice (some ⟨ge, 0, none⟩) 1 ce, .slice aw ws.length cw, .int .i64 (-1), .bool false] 59 (0, 0)) ∧ w2.ownsRow B 62 2 (.slice (some ⟨ge, 0, none⟩) 1 ce) 1 [.string nm, .string D'] ∧ Below B w w2 ∧ w1.heap.size ≤ w2.heap.size := by
    rcases hw2 with ⟨rfl, rfl⟩ | rfl
    · exact ⟨r1, o1, b1, Nat.le_refl _⟩
    · have gs := grown_setCell w1 ⟨ge, 1, none⟩ (.string D')
      refine ⟨row_kept r1 gs (fun e => own_ne_row o1 r1 (by decide) (by rw [← e]; rfl)), ?_, b1.grown gs (Nat.le_trans hBw hg.size) (fun k e => by injection e with e; simp only at e; omega), gs.size⟩
      exact (World.ownsRow.stored o1 1 (.string D')).1
  obtain ⟨k1, k2, k3, k4⟩ := key
  have gs2 := grown_setCell w2 ⟨b, 2, none⟩ (.slice none 0 0)
  refine ⟨k1, k2, k3, k4, ⟨hBb, some ⟨ge, 0, none⟩, ce, none, 0, heap_setCell_same w2 b 2 _ _ _ k1, World.ownsRow.kept k2 gs2 (.inr (own_ne_row k2 k1 (by decide))), World.ownsRow_nil _ _ _ _⟩, k3.grown gs2 (Nat.le_trans hBw (Nat.le_trans hg.size k4)) (fun k e => by injection e with e; simp only at e; omega)⟩

set_option maxRecDepth 100000 in
set_option maxHeartbeats 2000000 in
theorem settle_sync (K : Nat → Bool) {B b S : Nat} {nm D : ByteArray} {ws : List (Nat × ByteArray)} (hG : Good S nm (some D) ws) (w : World) (h : DevAt w B b S nm (some D) ws) (hBw : B ≤ w.heap.size)
    (hK : ∀ W, w.grownBy W none → ∀ k, k < ws.length → Calls Tryz.prog 64 #[.int .i64 (k : Nat)] W fun e w' => e = .returned (.bool (K k)) ∧ w' = W) :
    Calls Tryz.prog 63 #[.pointer (some ⟨b, 0, none⟩), .func (.func 64) #[] #[]] w fun e w' => e = .returned (.tuple #[]) ∧ DevAt w' B b S nm (some (dn K ws D)) [] ∧ Below B w w' := by
  have hlow := h.low
  obtain ⟨m, hDm, hm1, hmS⟩ := hG.ext D rfl
  have hS := hG.size
  have hfew := hG.few
  have hwt : ∀ p ∈ ws, 64 * p.1 + 64 ≤ D.data.toList.length ∧ p.2.size = 64 := fun p hp => by
    obtain ⟨D2, e, h1, h2⟩ := hG.wts p hp
    injection e with e
    subst e
    exact ⟨by rw [size_data]; exact h1, h2⟩
  obtain ⟨ae, ce, aw, cw, h1, h2, h3⟩ := h.at_
  rw [show exN (some D) = 1 from rfl] at h1 h2
  obtain ⟨ge, ce', e1, c0, c1⟩ := (RowAt.of_owns h2).one
  injection e1 with e1 _ e3
  subst e1 e3
  have hrow := RowAt.of_owns h3
  obtain ⟨N, hN⟩ : ∃ N, N = ws.length := ⟨_, rfl⟩
  obtain ⟨n0, hn0⟩ : ∃ n0, n0 = 64 * m := ⟨_, rfl⟩
  rw [← hn0] at hDm
  have hL0 : D.data.toList.length = n0 := by rw [size_data]; exact hDm
  have hlen := fun k (hk : k ≤ N) => stl_length (K := K) hwt k (by omega)
  have HF := Lib.hid (fun (w1 : World) D' hg w2 hw2 => settle_fin (D' := D') (w1 := w1) hlow hBw h1 h2 hg (.inr trivial) w2 hw2)
  have HCw : Hid (∀ W, w.grownBy W none → ∀ k, k < N → ∃ (p : Nat × ByteArray) (ga : Nat), ws.getD k (0, ⟨#[]⟩) = p ∧ 64 * p.1 + 64 ≤ n0 ∧ p.2.size = 64 ∧ aw = some ⟨ga, 0, none⟩ ∧ W.cell? ⟨ga, k * 3, none⟩ = some (.string nm) ∧ W.cell? ⟨ga, k * 3 + 1, none⟩ = some (.int .i64 (p.1 : Nat)) ∧ W.cell? ⟨ga, k * 3 + 2, none⟩ = some (.string p.2)) := fun W hW k hk => by
    have hk' : k < ws.length := by omega
    have hp : ws[k]? = some (ws[k]'hk') := List.getElem?_eq_getElem hk'
    obtain ⟨x1, x2, x3⟩ := wsC_get nm ws k _ hp
    obtain ⟨a0, c9, e0, hcw⟩ := hrow
    injection e0 with e0
    obtain ⟨g, e1, y1⟩ := hcw _ _ x1
    obtain ⟨g2, e2, y2⟩ := hcw _ _ x2
    obtain ⟨g3, e3, y3⟩ := hcw _ _ x3
    rw [e1] at e2 e3
    injection e2 with e2
    injection e2 with e2
    injection e3 with e3
    injection e3 with e3
    subst e2 e3
    obtain ⟨z1, z2⟩ := hwt _ (List.getElem_mem hk')
    exact ⟨_, g, by simp [List.getD, hk'], by rw [← hL0]; exact z1, z2, by rw [e0, e1], hW.cell y1 (by simp), hW.cell y2 (by simp), hW.cell y3 (by simp)⟩
  rw [← hN] at h1 h3 hK hfew HF
  have HR := Lib.hid (fun W (hW : w.grownBy W none) => row5 (row_kept h1 hW (by simp)))
  have HC := Lib.hid (fun W (hW : w.grownBy W none) => (⟨hW.cell c0 (by simp), hW.cell c1 (by simp), own_keep h2 hW (Nat.le_refl _)⟩ : W.cell? ⟨ge, 0, none⟩ = some (.string nm) ∧ W.cell? ⟨ge, 1, none⟩ = some (.string D) ∧ W.ownsRow B 62 2 (.slice (some ⟨ge, 0, none⟩) 1 ce) 1 [.string nm, .string D]))
  have HK := Lib.hid hK
  have HL := Lib.hid hlen
  have HDn : Hid (dn K ws D = ⟨(stl K ws D.data.toList N).toArray⟩) := by show _ = _; rw [hN]; rfl
  have hm2 : m ≤ 16384 := by omega
  have hN8 : N ≤ 16384 := hfew
  clear h h1 h2 h3 c0 c1 hrow hwt hK hlen hG hN hfew hS hmS
  have Hsz := Lib.hid hDm
  have HL0 := Lib.hid hL0
  have hn1 : 64 ≤ n0 ∧ n0 ≤ 1048576 := by omega
  clear hDm hL0 hn0
  go_enter Tryz.func63, Tryz.ntmps63
  obtain ⟨⟨r0, r1, r2, r3, r4⟩, _⟩ := HR.out w (grown_self _ _)
  go_wp2_with fail
  clear r0 r1 r2 r3 r4
  go_loopw [15] (fun iv wr => ∃ i : Nat, iv = .int .i64 (i : Nat) ∧ i ≤ 1 ∧ Hid (i = 0 → wr = w) ∧ Hid (i = 1 → ∃ w1, w.grownBy w1 none ∧ (wr = w1 ∧ dn K ws D = D ∨ wr = w1.setCell ⟨ge, 1, none⟩ (.string (dn K ws D))))) (fun iv _ => 1 - (intOf iv).toNat)
  case atStart => exact ⟨0, rfl, by omega, fun _ => rfl, fun e => by omega⟩
  case round =>
    obtain ⟨i, rfl, hi, hz, ho⟩ := hrel
    by_cases hlt : i < 1
    · obtain rfl : i = 0 := by omega
      obtain rfl : w = wr := (hz.out rfl).symm
      clear hz ho
      obtain ⟨b0, b1, _⟩ := HC.out w (grown_self _ _)
      have q1 := heap_alloc_new w (.cells #[.string nm, .string D] 62)
      have g1 := World.grownBy_alloc w (.cells #[.string nm, .string D] 62) none
      obtain ⟨⟨t0, t1, t2, t3, t4⟩, _⟩ := HR.out _ g1
      go_wp2_with fail
      clear b0 b1 t0 t1 t2 t3 t4
      obtain ⟨X, hX⟩ : ∃ X, X = w.heap.size := ⟨_, rfl⟩
      rw [← hX] at q1 ⊢
      have HX := Lib.hid hX
      have hXs : Hid (X + 1 ≤ (w.alloc (.cells #[.string nm, .string D] 62)).heap.size) := by show _ ≤ _; rw [hX]; simp
      generalize w.alloc (.cells #[.string nm, .string D] 62) = wA at *
      have Q1 := Lib.hid q1
      have G1 := Lib.hid g1
      clear q1 g1 hX
      go_loopw [6, 26] (fun dv kv wr => ∃ k : Nat, kv = .int .i64 (k : Nat) ∧ k ≤ N ∧ Hid (Dst K ws D.data.toList wA.heap.size wr dv k) ∧ Hid (wA.grownBy wr none)) (fun _ kv _ => N - (intOf kv).toNat)
      case atStart => exact ⟨0, rfl, Nat.zero_le _, .inl ⟨rfl, rfl⟩, grown_self _ _⟩
      case round =>
        obtain ⟨k, rfl, hk, hd, hg⟩ := hrel
        have hlk := HL.out k hk
        rw [HL0.out] at hlk
        have hpos : Hid (0 < (stl K ws D.data.toList k).length) := by show _ < _; omega
        by_cases hltk : k < N
        · obtain ⟨⟨s, d⟩, ga, hpe, hsm, hdz, rfl, a0, a1, a2⟩ := HCw.out wr (grown_trans G1.out hg.out) k hltk
          simp only at hsm hdz a1 a2
          have q2 := heap_alloc_new wr (.cells #[.string nm, .int .i64 (s : Nat), .string d] 98)
          have g2 := World.grownBy_alloc wr (.cells #[.string nm, .int .i64 (s : Nat), .string d] 98) none
          have hd2 := Lib.hid (hd.out.kept g2 hpos.out)
          obtain ⟨x0, x1, _, _⟩ := row2 (row_kept (row_kept Q1.out hg.out (by simp)) g2 (by simp))
          obtain ⟨y0, y1, y2, _, _, _⟩ := row3 q2
          have HG2 := Lib.hid (grown_trans hg.out g2)
          have HKk := Lib.hid (HK.out _ (grown_trans G1.out HG2.out) k hltk)
          have hPe := Lib.hid hpe
          have hkk : (k : Int) < (N : Int) := by omega
          clear q2 g2 hd hpe
          go_wp2_with fail
          generalize wr.alloc (.cells #[.string nm, .int .i64 (s : Nat), .string d] 98) = wC at *
          clear a0 a1 a2
          cases hKb : K k with
          | false =>
            rw [hKb] at HKk
            have HKb := Lib.hid hKb
            clear hKb
            refine HKk.out.mono ?_
            rintro e w9 ⟨rfl, hw9⟩
            obtain rfl : wC = w9 := hw9.symm
            simp only []
            go_wp2_with fail
            refine ⟨⟨k + 1, by rw [Int.natCast_add]; rfl, by omega, hd2.out.skip HKb.out, HG2⟩, by simp [intOf] <;> omega⟩
          | true =>
            rw [hKb] at HKk
            have HKb := Lib.hid hKb
            clear hKb
            refine HKk.out.mono ?_
            rintro e w9 ⟨rfl, hw9⟩
            obtain rfl : wC = w9 := hw9.symm
            simp only []
            have HBA : Hid (wA.heap.size ≤ wC.heap.size) := HG2.out.size
            have q := fun (w : World) (a : Option Addr) (n c n' c' : Nat) => Lib.run_eql_slice_nil (P := Tryz.prog) w 81 _ a n c n' c' Tryz.underlying81
            rcases hd2.out with ⟨rfl, hst⟩ | ⟨g, cap, rfl, hst⟩
            · have HSt := Lib.hid hst
              clear hst
              have s1 : 64 * s + 64 ≤ n0 := hsm
              go_wp2_with (first
                | ((with_reducible show wpList _ _ _ _ _ _); refine wpList_conv_str rfl 9 81 5 (.tmp 45) rfl Tryz.underlying9 Tryz.underlying81 Tryz.underlying5 wA.heap.size HBA.out D rfl ?_; intro cap w10 hb hg10; rw [Hsz.out] at hb ⊢; have y1' := hg10.cell y1 (by simp); have y2' := hg10.cell y2 (by simp); have HB10 := Lib.hid hb; have HG10 := Lib.hid hg10; clear hb hg10)
                | fail)
              have HB : Hid (BytesF w10 wA.heap.size (.slice (some ⟨wC.heap.size, 0, none⟩) n0 cap) (stl K ws D.data.toList k)) := by show BytesF _ _ _ _; rw [HSt.out]; exact HB10.out
              have HGt : Hid (wA.grownBy w10 none) := grown_trans HG2.out HG10.out
              have HGG : Hid (wA.heap.size ≤ wC.heap.size) := HBA
              have hfc := HB.out.facts
              have Hvl : Hid ((if cap = (64 * (s : Int)).toNat then some (⟨wC.heap.size, 0, none⟩ : Addr) else some ⟨wC.heap.size, (64 * (s : Int)).toNat, none⟩) = some ⟨wC.heap.size, 64 * s, none⟩ ∧ n0 - (64 * (s : Int)).toNat = n0 - 64 * s ∧ cap - (64 * (s : Int)).toNat = cap - 64 * s) := by
                show _ ∧ _
                rw [show (64 * (s : Int)).toNat = 64 * s by omega, if_neg (by omega)]
                exact ⟨rfl, rfl, rfl⟩
              clear hfc
              have hs1 : (0 : Int) ≤ 64 * (s : Int) := by omega
              have hs2 : 64 * (s : Int) ≤ (n0 : Int) := by omega
              have hs3 : 64 * (s : Int) < (n0 : Int) := by omega
              have hdle : Hid (d.size ≤ n0 - 64 * s) := by show _ ≤ _; omega
              have hfit : Hid (64 * s + d.size ≤ (stl K ws D.data.toList k).length) := by show _ ≤ _; omega
              have hcn : ¬ cap = 64 * s := by have h9 := HB.out.facts; omega
              have hto : (64 * (s : Int)).toNat = 64 * s := by omega
              have hm64 : IntKind.i64.wrap (64 * (s : Int)) = 64 * (s : Int) := IntWalk.i64_in _ (by omega)
              go_region_law (refine step_copy_strF rfl (.tmp 51) (.tmp 53) 81 9 rfl 5 Tryz.underlying81 Tryz.sizeOf5 wA.heap.size wC.heap.size n0 cap (64 * s) (n0 - 64 * s) (cap - 64 * s) (stl K ws D.data.toList k) HB.out d (by simp [Act.eval, Act.put, hto, hcn]) (by simp [Act.eval, Act.put]) hdle.out hfit.out ?_; intro w11 hb11 hg11; have HB11 := Lib.hid hb11; have HG11 := Lib.hid hg11; clear hb11 hg11)
              all_goals
                have HD11 : Hid (Dst K ws D.data.toList wA.heap.size w11 (.slice (some ⟨wC.heap.size, 0, none⟩) n0 cap) (k + 1)) := .inr ⟨wC.heap.size, cap, by rw [HL0.out], by rw [stl, if_pos HKb.out, hPe.out]; exact HB11.out⟩
                have HG12 : Hid (wA.grownBy w11 none) := grown_own HGt.out (grown_trans (grown_drew _ _) HG11.out) HGG.out
                clear hm64 hto HB11 HG11 Hvl hdle hfit
                go_wp2_with fail
                refine ⟨?_, by simp [intOf] <;> omega⟩
                repeat apply Exists.intro
                first | refine ⟨⟨k + 1, ?hk, by omega, HD11, HG12⟩, ?he⟩ | refine ⟨⟨k + 1, ?hk, by omega, HD11⟩, ?he⟩
                case he => repeat (first | exact rfl | refine ⟨rfl, ?_⟩)
                case hk => rw [Int.natCast_add]; rfl
            · rw [HL0.out] at hst ⊢
              have HB := Lib.hid hst
              have HGt := HG2
              have HGG : Hid (wA.heap.size ≤ g) := hst.facts.2.2
              have s1 : 64 * s + 64 ≤ n0 := hsm
              clear hst
              go_wp2_with fail
              have hfc := HB.out.facts
              have Hvl : Hid ((if cap = (64 * (s : Int)).toNat then some (⟨g, 0, none⟩ : Addr) else some ⟨g, (64 * (s : Int)).toNat, none⟩) = some ⟨g, 64 * s, none⟩ ∧ n0 - (64 * (s : Int)).toNat = n0 - 64 * s ∧ cap - (64 * (s : Int)).toNat = cap - 64 * s) := by
                show _ ∧ _
                rw [show (64 * (s : Int)).toNat = 64 * s by omega, if_neg (by omega)]
                exact ⟨rfl, rfl, rfl⟩
              clear hfc
              have hs1 : (0 : Int) ≤ 64 * (s : Int) := by omega
              have hs2 : 64 * (s : Int) ≤ (n0 : Int) := by omega
              have hs3 : 64 * (s : Int) < (n0 : Int) := by omega
              have hdle : Hid (d.size ≤ n0 - 64 * s) := by show _ ≤ _; omega
              have hfit : Hid (64 * s + d.size ≤ (stl K ws D.data.toList k).length) := by show _ ≤ _; omega
              have hcn : ¬ cap = 64 * s := by have h9 := HB.out.facts; omega
              have hto : (64 * (s : Int)).toNat = 64 * s := by omega
              have hm64 : IntKind.i64.wrap (64 * (s : Int)) = 64 * (s : Int) := IntWalk.i64_in _ (by omega)
              go_region_law (refine step_copy_strF rfl (.tmp 51) (.tmp 53) 81 9 rfl 5 Tryz.underlying81 Tryz.sizeOf5 wA.heap.size g n0 cap (64 * s) (n0 - 64 * s) (cap - 64 * s) (stl K ws D.data.toList k) HB.out d (by simp [Act.eval, Act.put, hto, hcn]) (by simp [Act.eval, Act.put]) hdle.out hfit.out ?_; intro w11 hb11 hg11; have HB11 := Lib.hid hb11; have HG11 := Lib.hid hg11; clear hb11 hg11)
              all_goals
                have HD11 : Hid (Dst K ws D.data.toList wA.heap.size w11 (.slice (some ⟨g, 0, none⟩) n0 cap) (k + 1)) := .inr ⟨g, cap, by rw [HL0.out], by rw [stl, if_pos HKb.out, hPe.out]; exact HB11.out⟩
                have HG12 : Hid (wA.grownBy w11 none) := grown_own HGt.out (grown_trans (grown_drew _ _) HG11.out) HGG.out
                clear hm64 hto HB11 HG11 Hvl hdle hfit
                go_wp2_with fail
                refine ⟨?_, by simp [intOf] <;> omega⟩
                repeat apply Exists.intro
                first | refine ⟨⟨k + 1, ?hk, by omega, HD11, HG12⟩, ?he⟩ | refine ⟨⟨k + 1, ?hk, by omega, HD11⟩, ?he⟩
                case he => repeat (first | exact rfl | refine ⟨rfl, ?_⟩)
                case hk => rw [Int.natCast_add]; rfl
        · obtain rfl : k = N := by omega
          have q := fun (w : World) (a : Option Addr) (n c : Nat) => run_neq_slice_nil (P := Tryz.prog) w 81 _ a n c Tryz.underlying81
          have HGw := Lib.hid (grown_trans G1.out hg.out)
          rcases hd.out with ⟨rfl, hst⟩ | ⟨g, cap, rfl, hst⟩
          · have hDD : Hid (dn K ws D = D) := by show _ = _; rw [HDn.out, hst]
            clear hst hd
            go_wp2_with fail
            exact ⟨⟨1, rfl, by omega, fun e => by omega, fun _ => ⟨wr, HGw.out, .inl ⟨rfl, hDD.out⟩⟩⟩, by simp [intOf]⟩
          · rw [HL0.out] at hst ⊢
            have HB := Lib.hid hst
            obtain ⟨⟨t0, t1, t2, t3, t4⟩, _⟩ := HR.out wr HGw.out
            obtain ⟨z0, z1, zo⟩ := HC.out wr HGw.out
            have zf := World.ownsRow.frozenAt zo 1
            have hcv : (convert 81 9 (.slice (some ⟨g, 0, none⟩) n0 cap)).run Tryz.prog wr.drew = .ok (.string (dn K ws D)) wr.drew := by
              rw [HDn.out]
              obtain ⟨g', cap', e1, _, _, h4⟩ := hst
              injection e1 with e1 e2 e3
              injection e1 with e1
              injection e1 with e1
              subst e1 e2 e3
              exact run_convert_bytes_back (P := Tryz.prog) wr.drew _ _ 5 ⟨g, 0, none⟩ cap _ Tryz.underlying81 Tryz.underlying5 Tryz.underlying9 (fun j hj => by rw [add_plain, Nat.zero_add]; exact (h4 j hj).1)
            clear hst hd zo
            go_wp2_with fail
            go_region
            all_goals
              clear hcv
              go_wp2_with fail
              exact ⟨⟨1, rfl, by omega, fun e => by omega, fun _ => ⟨wr.drew, grown_trans HGw.out (grown_drew _ none), .inr rfl⟩⟩, by simp [intOf]⟩
    · obtain rfl : i = 1 := by omega
      obtain ⟨w1, hgw, hw⟩ := ho.out rfl
      obtain ⟨k1, k2, k3, k4, k5, k6⟩ := HF.out w1 _ hgw wr hw
      obtain ⟨⟨t0, t1, t2, t3, t4⟩, _, _, f2, _⟩ := row5 k1
      have K5 := Lib.hid k5
      have K6 := Lib.hid k6
      clear k1 k2 k3 k4 k5 k6 hw hgw hz ho
      go_wp2_with fail
      go_end0
      exact ⟨rfl, K5.out, K6.out⟩

end Go.Proofs.YtihohljhjdmamaaGreat
