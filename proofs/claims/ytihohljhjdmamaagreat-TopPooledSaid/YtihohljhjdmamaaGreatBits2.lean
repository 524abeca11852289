/- What bits' Writer does in memory: Add puts a number's lowest bits behind; the writer's bits are at most some 2 to the 30th. -/
import Derived.Test.YtihohljhjdmamaaGreatBits1
import Derived.StillTailTactics
import Derived.Lib.OthersKept
namespace Go.Proofs.YtihohljhjdmamaaGreat
open Go.RowKit BitsPlain
set_option linter.unusedVariables false

theorem elemBytes : ElemOf Tryz.prog 81 5 (.int .u8 0) 1 := ⟨Tryz.underlying81, by kernel_rfl, rfl⟩

/-- block b is a writer that has the bits l: whole bytes o, and r -/
structure WriterAt (w : World) (B b : Nat) (o : List UInt8) (r : List Bool) (v : Value) : Prop where
  hB : B ≤ b
  hr : r.length < 8
  blk : w.heap[b]? = some (.cells #[v, .int .u64 (nat r : Nat), .int .i64 (r.length : Nat)] 83 (0, 0))
  own : Owns w B 5 v (bcells o)
def IsWriter (w : World) (B b : Nat) (l : List Bool) : Prop := ∃ o r v, l = unpack o ++ r ∧ WriterAt w B b o r v

/-- the writer behind a round that makes no byte -/
theorem WriterAt.put {w w2 : World} {B b : Nat} {o : List UInt8} {r r' : List Bool} {v : Value} (h : WriterAt w B b o r v) (hr : r'.length < 8) (hg : w.grownBy w2 (some b))
    (hb : w2.heap[b]? = some (.cells #[v, .int .u64 (nat r' : Nat), .int .i64 (r'.length : Nat)] 83 (0, 0))) : WriterAt w2 B b o r' v :=
  ⟨h.hB, hr, hb, h.own.kept_of hg (.inl (by
    intro e
    rcases h.own.2 with ⟨h1, _⟩ | ⟨g, cap, cur, h1, _, h3, _⟩
    · rw [h1] at e; cases e
    · rw [h1] at e
      injection e with e
      simp only at e
      subst e
      rw [h.blk] at h3
      injection h3 with h3
      injection h3 with _ h4
      exact absurd h4 (by decide)))⟩

theorem others_grown {w w2 : World} {b : Nat} (hg : w.grownBy w2 (some b)) : Lib.OthersKept 5 (some b) w w2 := by
  intro k o hk hb _
  exact (hg.block k (Array.getElem?_eq_some_iff.1 hk).1 hb).trans hk

/-- two stores into a writer -/
theorem two_stores (w : World) (b n : Nat) (v x y x' y' : Value) (t : TypeId) (hb : w.heap[b]? = some (.cells #[v, x, y] t (0, 0))) :
    (((w.drewN n).setCell ⟨b, 1, none⟩ x').setCell ⟨b, 2, none⟩ y').heap[b]? = some (.cells #[v, x', y'] t (0, 0)) ∧ w.grownBy (((w.drewN n).setCell ⟨b, 1, none⟩ x').setCell ⟨b, 2, none⟩ y') (some b) := by
  constructor
  · have h1 := heap_setCell_same (w.drewN n) b 1 _ t x' hb
    have h2 := heap_setCell_same _ b 2 _ t y' h1
    rw [h2]; rfl
  · exact grown_trans (grown_trans (grown_drewN w n _) (grown_setCell _ ⟨b, 1, none⟩ x')) (grown_setCell _ ⟨b, 2, none⟩ y')

theorem WriterAt.ne {w : World} {B b : Nat} {o : List UInt8} {r : List Bool} {v : Value} (h : WriterAt w B b o r v) : v.ownBlock ≠ some b := by
  intro e
  rcases h.own.2 with ⟨h1, _⟩ | ⟨g, cap, cur, h1, _, h3, _⟩
  · rw [h1] at e; cases e
  · rw [h1] at e
    injection e with e
    simp only at e
    subst e
    rw [h.blk] at h3
    injection h3 with h3
    injection h3 with _ h4
    exact absurd h4 (by decide)

theorem cells3 {w w3 : World} {b : Nat} {v x y : Value} {t : TypeId} {q : Option Nat} (hb : w.heap[b]? = some (.cells #[v, x, y] t (0, 0))) (hg : w.grownBy w3 q) (hq : q ≠ some b) :
    w3.heap[b]? = some (.cells #[v, x, y] t (0, 0)) ∧ w3.cell? ⟨b, 0, none⟩ = some v ∧ w3.cell? ⟨b, 1, none⟩ = some x ∧ w3.cell? ⟨b, 2, none⟩ = some y ∧ w3.frozen? ⟨b, 0, none⟩ = false ∧ w3.frozen? ⟨b, 1, none⟩ = false ∧ w3.frozen? ⟨b, 2, none⟩ = false := by
  have h := (hg.block b (Array.getElem?_eq_some_iff.1 hb).1 (fun e => hq e.symm)).trans hb
  refine ⟨h, ?_, ?_, ?_, frozen_of_row _ _ _ _ _ h, frozen_of_row _ _ _ _ _ h, frozen_of_row _ _ _ _ _ h⟩ <;> (rw [cell_of_row _ _ _ _ _ _ h]; rfl)

/-- a flush: the byte goes over, the three fields are stored -/
theorem WriterAt.flushed {w3 : World} {B b : Nat} {o : List UInt8} {r' : List Bool} {v x y : Value} {g n cap : Nat} (hB : B ≤ b) (hr : r'.length = 8)
    (hb3 : w3.heap[b]? = some (.cells #[v, x, y] 83 (0, 0))) (hn : n = (bcells o).length + 1)
    (ho3 : Owns w3 B 5 (.slice (some ⟨g, 0, none⟩) n cap) (bcells o ++ [.int .u8 (nat r' : Nat)])) :
    WriterAt (((w3.setCell ⟨b, 0, none⟩ (.slice (some ⟨g, 0, none⟩) n cap)).setCell ⟨b, 1, none⟩ (.int .u64 0)).setCell ⟨b, 2, none⟩ (.int .i64 0)) B b (o ++ [UInt8.ofNat (nat r')]) [] (.slice (some ⟨g, 0, none⟩) n cap) := by
  have hn256 : nat r' < 256 := by
    have h1 := nat_lt r'
    rw [hr] at h1
    omega
  have hgb : g ≠ b := by
    intro e
    subst e
    rcases ho3.2 with ⟨h1, _⟩ | ⟨g', cap', cur, h1, _, h3, _⟩
    · cases h1
    · injection h1 with h1; injection h1 with h1; injection h1 with h1
      subst h1
      rw [hb3] at h3
      injection h3 with h3
      injection h3 with _ h4
      exact absurd h4 (by decide)
  have h1 := heap_setCell_same w3 b 0 _ _ (.slice (some ⟨g, 0, none⟩) n cap) hb3
  have h2 := heap_setCell_same _ b 1 _ _ (.int .u64 0) h1
  have h3 := heap_setCell_same _ b 2 _ _ (.int .i64 0) h2
  have hg : w3.grownBy (((w3.setCell ⟨b, 0, none⟩ (.slice (some ⟨g, 0, none⟩) n cap)).setCell ⟨b, 1, none⟩ (.int .u64 0)).setCell ⟨b, 2, none⟩ (.int .i64 0)) (some b) :=
    grown_trans (grown_trans (grown_setCell w3 ⟨b, 0, none⟩ _) (grown_setCell _ ⟨b, 1, none⟩ _)) (grown_setCell _ ⟨b, 2, none⟩ _)
  refine ⟨hB, by decide, ?_, ?_⟩
  · rw [h3]; rfl
  · have e : bcells (o ++ [UInt8.ofNat (nat r')]) = bcells o ++ [.int .u8 (nat r' : Nat)] := by
      rw [bcells_append]
      congr 1
      show [Value.int .u8 ((UInt8.ofNat (nat r')).toNat : Int)] = _
      rw [UInt8.toNat_ofNat', Nat.mod_eq_of_lt hn256]
    rw [e]
    exact ho3.kept_of hg (.inl (by intro e2; injection e2 with e2; exact hgb e2))

theorem flush_frame {w wr w2 w3 : World} {B b : Nat} {v x y z : Value} {xs : List Value} (hbl : Below B w wr) (hok : Lib.OthersKept 5 (some b) w wr) (hBw : B ≤ w.heap.size) (hB : B ≤ b)
    (hg2 : wr.grownBy w2 (some b)) (hown : Owns w2 B 5 v xs) (hg3 : w2.grownBy w3 v.ownBlock) :
    Below B w (((w3.setCell ⟨b, 0, none⟩ x).setCell ⟨b, 1, none⟩ y).setCell ⟨b, 2, none⟩ z) ∧ Lib.OthersKept 5 (some b) w (((w3.setCell ⟨b, 0, none⟩ x).setCell ⟨b, 1, none⟩ y).setCell ⟨b, 2, none⟩ z) := by
  have h1 := Nat.le_trans hBw hbl.size
  have h2 := Nat.le_trans h1 hg2.size
  have h3 := Nat.le_trans h2 hg3.size
  have hg4 : w3.grownBy (((w3.setCell ⟨b, 0, none⟩ x).setCell ⟨b, 1, none⟩ y).setCell ⟨b, 2, none⟩ z) (some b) :=
    grown_trans (grown_trans (grown_setCell w3 ⟨b, 0, none⟩ _) (grown_setCell _ ⟨b, 1, none⟩ _)) (grown_setCell _ ⟨b, 2, none⟩ _)
  refine ⟨((hbl.trans (below_grown hg2 hB h1)).trans ((Below.refl B w2).grown hg3 h2 (fun k hk => (World.ownsRow.lt hown k hk).1))).trans (below_grown hg4 hB h3), ?_⟩
  exact ((hok.trans (others_grown hg2)).trans ((Lib.OthersKept.refl _ _ w2).grown hg3 (Lib.ownsRowF_kind (World.ownsRowF_of hown)))).trans (others_grown hg4)

set_option maxRecDepth 100000 in
set_option maxHeartbeats 4000000 in
theorem add_any (B b : Nat) (l : List Bool) (x width : Nat) (w : World) (hl : IsWriter w B b l) (hx : x < 18446744073709551616) (hw : width ≤ 64) (hlen : l.length + width ≤ 1073741824) (hBw : B ≤ w.heap.size) :
    Calls Tryz.prog 33 #[.pointer (some ⟨b, 0, none⟩), .int .u64 x, .int .i64 width] w fun e w' => e = .returned (.tuple #[]) ∧ IsWriter w' B b (l ++ bitsOf x width) ∧ Below B w w' ∧ Lib.OthersKept 5 (some b) w w' := by
  go_enter Tryz.func33, Tryz.ntmps33
  go_wp2
  go_loopw [2] (fun wv wr => ∃ (m : Nat) (M : Int) (o : List UInt8) (r : List Bool) (v : Value), wv = .int .i64 M ∧ M = (m : Int) ∧ m ≤ width ∧ Hid (l ++ bitsOf x width = unpack o ++ r ++ bitsOf x m) ∧ Hid (WriterAt wr B b o r v) ∧ Hid (Below B w wr) ∧ Hid (Lib.OthersKept 5 (some b) w wr)) (fun wv _ => (intOf wv).toNat)
  case atStart =>
    obtain ⟨o, r, v, hlr, hwr⟩ := hl
    exact ⟨width, width, o, r, v, rfl, rfl, Nat.le_refl _, by show _ = _; rw [hlr], hwr, Below.refl _ _, Lib.OthersKept.refl _ _ _⟩
  case round =>
    clear hl
    obtain ⟨m, M, o, r, v, rfl, hM, hmw, hlr, hwr, hbl, hok⟩ := hrel
    by_cases hlt : 0 < m
    · have hr8 := hwr.out.hr
      obtain ⟨R, hR⟩ : ∃ R : Nat, R = r.length := ⟨_, rfl⟩
      have c0 : wr.cell? ⟨b, 0, none⟩ = some v := by rw [cell_of_row _ _ _ _ _ _ hwr.out.blk]; rfl
      have c1 : wr.cell? ⟨b, 1, none⟩ = some (.int .u64 (nat r : Nat)) := by rw [cell_of_row _ _ _ _ _ _ hwr.out.blk]; rfl
      have c2 : wr.cell? ⟨b, 2, none⟩ = some (.int .i64 (R : Nat)) := by rw [cell_of_row _ _ _ _ _ _ hwr.out.blk, hR]; rfl
      have f1 : wr.frozen? ⟨b, 1, none⟩ = false := frozen_of_row _ _ _ _ _ hwr.out.blk
      have f2 : wr.frozen? ⟨b, 2, none⟩ = false := frozen_of_row _ _ _ _ _ hwr.out.blk
      have f0 : wr.frozen? ⟨b, 0, none⟩ = false := frozen_of_row _ _ _ _ _ hwr.out.blk
      rw [← hR] at hr8
      obtain ⟨h, hh⟩ : ∃ h : Nat, h + R = 8 := ⟨8 - R, by omega⟩
      have hH : 8 - (R : Int) = (h : Int) := by omega
      have hM0 : 0 < M := by omega
      have hM1 : M ≤ 64 := by omega
      obtain ⟨n0, hn0⟩ : ∃ n0, n0 = nat r := ⟨_, rfl⟩
      rw [← hn0] at c1
      have HR := Lib.hid hR
      have HMm := Lib.hid hM
      have Hh := Lib.hid hh
      have Hn := Lib.hid hn0
      by_cases hk : m < h
      · have hk' : M < (h : Int) := by omega
        have hpart := u64_mask x m hx (by omega)
        have hMn : M.toNat = m := by omega
        rw [← hMn] at hpart
        obtain ⟨p, hp⟩ : ∃ p, p = x % 2 ^ M.toNat := ⟨_, rfl⟩
        rw [← hp] at hpart
        have Hp := Lib.hid hp
        have HMn := Lib.hid hMn
        have hround := add_round o r x m m (by rw [← hR]; exact hr8) (by rw [← hR]; omega)
        simp only at hround
        obtain ⟨hl1, hl2, hl3⟩ := hround
        obtain ⟨r', hr'⟩ : ∃ r', r' = r ++ (bitsOf x m).take m := ⟨_, rfl⟩
        rw [← hr'] at hl1 hl2 hl3
        have hl8 : r'.length ≤ 8 := by rw [hl1, ← hR]; omega
        have hjoin : bits .or .u64 (IntKind.u64.wrap ((n0 : Int) * (2 : Int) ^ M.toNat)) (p : Int) = ((nat r' : Nat) : Int) := by
          rw [hl2, hMn, hn0, Nat.sub_self, Nat.pow_zero, Nat.div_one]
          rw [hMn] at hp
          rw [← hp]
          refine u64_join _ _ _ ?_ (by omega) (by rw [hp]; exact Nat.mod_lt _ (Nat.pow_pos (by decide)))
          have h1 := nat_lt r'
          have h2 := pow_le_pow2 hl8
          rw [hl2, Nat.sub_self, Nat.pow_zero, Nat.div_one] at h1
          have : (2 : Nat) ^ 8 = 256 := by decide
          omega
        have HL1 := Lib.hid hl1
        have HL3 := Lib.hid hl3
        clear hl1 hl2 hl3 hr' hl8
        generalize hnn : nat r' = nn at *
        have HNN := Lib.hid hnn
        clear hnn
        clear hM hp hMn hR hn0 hh
        go_wp2_with fail
        go_quiet (fail)
        clear hpart
        go_wp2_with fail
        go_region
        have hts := two_stores wr b (nq + 1) v _ _ (.int .u64 (nn : Int)) (.int .i64 ((R : Int) + M)) _ hwr.out.blk
        clear hjoin
        generalize (((wr.drewN (nq + 1)).setCell ⟨b, 1, none⟩ (.int .u64 (nn : Int))).setCell ⟨b, 2, none⟩ (.int .i64 ((R : Int) + M))) = w2 at hts ⊢
        obtain ⟨hb2, hg2⟩ := hts
        have d2 : w2.cell? ⟨b, 2, none⟩ = some (.int .i64 ((R : Int) + M)) := by rw [cell_of_row _ _ _ _ _ _ hb2]; rfl
        have Hb2 := Lib.hid hb2
        have Hg2 := Lib.hid hg2
        clear hb2 hg2 c0 c1 c2 f0 f1 f2
        go_wp2_with fail
        go_roundw
        case rel =>
          refine ⟨0, 0, o, r', v, rfl, rfl, by omega, ?_, ?_, hbl.out.trans (below_grown Hg2.out hwr.out.hB (Nat.le_trans hBw hbl.out.size)), hok.out.trans (others_grown Hg2.out)⟩
          · show _ = _
            rw [hlr.out, HL3.out, Nat.sub_self]
          · have hlr' := HL1.out
            refine hwr.out.put (by rw [hlr']; have := HR.out; have := Hh.out; omega) Hg2.out ?_
            rw [Hb2.out, HNN.out, hlr', HR.out, HMm.out]
            rfl
        case measure => simp [intOf]; omega
      · have hround := add_round o r x m h (by rw [← hR]; exact hr8) (by rw [← hR]; omega)
        simp only at hround
        obtain ⟨hl1, hl2, hl3⟩ := hround
        obtain ⟨r', hr'⟩ : ∃ r', r' = r ++ (bitsOf x m).take h := ⟨_, rfl⟩
        rw [← hr'] at hl1 hl2 hl3
        obtain ⟨s, hs⟩ : ∃ s : Nat, h + s = m := ⟨m - h, by omega⟩
        have hl8' : r'.length = 8 := by rw [hl1, ← hR]; omega
        have hl8 : r'.length ≤ 8 := by omega
        rw [show m - h = s by omega] at hl2 hl3
        obtain ⟨p, hp⟩ : ∃ p, p = x / 2 ^ s % 2 ^ h := ⟨_, rfl⟩
        have hjoin : bits .or .u64 (IntKind.u64.wrap ((n0 : Int) * (2 : Int) ^ h)) (p : Int) = ((nat r' : Nat) : Int) := by
          rw [hl2, hn0, ← hp]
          refine u64_join _ _ _ ?_ (by omega) (by rw [hp]; exact Nat.mod_lt _ (Nat.pow_pos (by decide)))
          have h1 := nat_lt r'
          have h2 := pow_le_pow2 hl8
          rw [hl2] at h1
          have : (2 : Nat) ^ 8 = 256 := by decide
          omega
        have hn256 : nat r' < 256 := by
          have h1 := nat_lt r'
          have h2 := pow_le_pow2 hl8
          have : (2 : Nat) ^ 8 = 256 := by decide
          omega
        have hRh : (R : Int) + (h : Int) = 8 := by omega
        have hwn : IntKind.u8.wrap ((nat r' : Nat) : Int) = ((nat r' : Nat) : Int) := by rw [IntKind.wrap_u8]; omega
        have HL8 := Lib.hid hl8'
        have HL1 := Lib.hid hl1
        have HL3 := Lib.hid hl3
        have HRh := Lib.hid hRh
        clear hl1 hl2 hl3 hr'
        obtain ⟨nn, hnn⟩ : ∃ nn, nn = nat r' := ⟨_, rfl⟩
        rw [← hnn] at hjoin hn256 hwn
        clear hl8 hl8'
        have HNN := Lib.hid hnn
        have Hs := Lib.hid hs
        rcases Nat.eq_zero_or_pos s with h0 | h0
        · have hMh : M = (h : Int) := by omega
          have hpart := u64_mask x h hx (by omega)
          rw [h0, Nat.pow_zero, Nat.div_one] at hp
          rw [← hp] at hpart
          clear hnn hM hp hR hn0 hh hs hRh
          subst hMh
          have hRh := HRh.out
          go_wp2_with fail
          go_quiet (fail)
          clear hpart
          go_wp2_with fail
          go_region
          have hts := two_stores wr b (nq + 1) v _ _ (.int .u64 (nn : Int)) (.int .i64 8) _ hwr.out.blk
          clear hjoin
          generalize (((wr.drewN (nq + 1)).setCell ⟨b, 1, none⟩ (.int .u64 (nn : Int))).setCell ⟨b, 2, none⟩ (.int .i64 8)) = w2 at hts ⊢
          obtain ⟨hb2, hg2⟩ := hts
          have hwr2 : v.ownBlock ≠ some b := hwr.out.ne
          have Hown : Hid (Owns w2 B 5 v (bcells o)) := hwr.out.own.kept_of hg2 (.inl hwr2)
          have hol : 8 * o.length ≤ 1073741824 := by
            have h5 := congrArg List.length hlr.out
            simp only [List.length_append, length_unpack, length_bitsOf] at h5
            omega
          have Hle1 : Hid (((bcells o).length + 1) * 1 ≤ 140737488355328) := by show _ ≤ _; rw [bcells_length]; omega
          have Hle2 : Hid ((bcells o).length + 1 ≤ maxLen) := by show _ ≤ _; rw [bcells_length]; unfold maxLen; omega
          have HBs : Hid (B ≤ w2.heap.size) := Nat.le_trans hBw (Nat.le_trans hbl.out.size hg2.size)
          have Hcells : Hid (∀ w3 : World, w2.grownBy w3 v.ownBlock → w3.heap[b]? = some (.cells #[v, .int .u64 (nn : Int), .int .i64 8] 83 (0, 0)) ∧ w3.cell? ⟨b, 0, none⟩ = some v ∧ w3.cell? ⟨b, 1, none⟩ = some (.int .u64 (nn : Int)) ∧ w3.cell? ⟨b, 2, none⟩ = some (.int .i64 8) ∧ w3.frozen? ⟨b, 0, none⟩ = false ∧ w3.frozen? ⟨b, 1, none⟩ = false ∧ w3.frozen? ⟨b, 2, none⟩ = false) := fun w3 hg => cells3 hb2 hg hwr2
          have d0 : w2.cell? ⟨b, 0, none⟩ = some v := by rw [cell_of_row _ _ _ _ _ _ hb2]; rfl
          have d1 : w2.cell? ⟨b, 1, none⟩ = some (.int .u64 (nn : Int)) := by rw [cell_of_row _ _ _ _ _ _ hb2]; rfl
          have d2 : w2.cell? ⟨b, 2, none⟩ = some (.int .i64 8) := by rw [cell_of_row _ _ _ _ _ _ hb2]; rfl
          have hA : ∀ O, (w2.alloc O).cell? ⟨b, 0, none⟩ = some v ∧ (w2.alloc O).cell? ⟨b, 1, none⟩ = some (.int .u64 (nn : Int)) := fun O => ⟨(cells3 hb2 (World.grownBy_alloc w2 O none) (by simp)).2.1, (cells3 hb2 (World.grownBy_alloc w2 O none) (by simp)).2.2.1⟩
          have hA0 : ∀ O, (w2.alloc O).cell? ⟨b, 0, none⟩ = some v := fun O => (hA O).1
          have hA1 : ∀ O, (w2.alloc O).cell? ⟨b, 1, none⟩ = some (.int .u64 (nn : Int)) := fun O => (hA O).2
          have Hg2 := Lib.hid hg2
          clear hA hb2 hg2 c0 c1 c2 f0 f1 f2 hol hwr2
          go_wp2_with fail
          go_region_law (refine step_push rfl (.tmp 60) (.tmp 66) 81 rfl B 5 (.int .u8 0) 1 elemBytes w2 v (bcells o) Hown.out (.int .u8 (nn : Int)) rfl Hle1.out Hle2.out HBs.out (by simp [Act.eval]) w2.heap.size (by simp [Act.eval]) (by first | exact grown_alloc_drew _ _ _ | exact World.grownBy_alloc _ _ _) (by exact heap_alloc_new _ _) ?_; intro g cap w3 ho3 hg3 hBg; have Hb3 := Lib.hid (Hcells.out w3 hg3).1; obtain ⟨e0, e1, e2, e3, e4, e5⟩ := (Hcells.out w3 hg3).2; have Ho3 := Lib.hid ho3; have Hg3 := Lib.hid hg3; clear ho3 hg3)
          all_goals
            go_wp2_with fail
            go_roundw
            case rel =>
              have hwf := WriterAt.flushed (B := B) (r' := r') hwr.out.hB HL8.out Hb3.out rfl (by have := Ho3.out; rw [HNN.out] at this; exact this)
              have hff := flush_frame (x := .slice (some ⟨g, 0, none⟩) ((bcells o).length + 1) cap) (y := .int .u64 0) (z := .int .i64 0) hbl.out hok.out hBw hwr.out.hB Hg2.out Hown.out Hg3.out
              refine ⟨s, (s : Int), o ++ [UInt8.ofNat (nat r')], [], _, by rw [h0]; rfl, rfl, by have := Hs.out; omega, ?_, hwf, hff.1, hff.2⟩
              show _ = _
              rw [hlr.out, HL3.out, flush o r' HL8.out]
              simp
            case measure => simp [intOf]; have := HMm.out; have := Hs.out; omega
        · have hkM : (h : Int) < M := by omega
          have hS : M - (h : Int) = (s : Int) := by omega
          have hs64 : (s : Int) < 64 := by omega
          have hpart := u64_mask (x / 2 ^ s) h (Nat.lt_of_le_of_lt (Nat.div_le_self _ _) hx) (by omega)
          have hcast : ((x / 2 ^ s : Nat) : Int) = (x : Int) / 2 ^ s := by simp
          rw [hcast, ← hp] at hpart
          clear hcast
          clear hnn hM hp hR hn0 hh hs hRh
          have hRh := HRh.out
          go_wp2_with fail
          go_quiet (fail)
          clear hpart
          go_wp2_with fail
          go_region
          have hts := two_stores wr b (nq + 1) v _ _ (.int .u64 (nn : Int)) (.int .i64 8) _ hwr.out.blk
          clear hjoin
          generalize (((wr.drewN (nq + 1)).setCell ⟨b, 1, none⟩ (.int .u64 (nn : Int))).setCell ⟨b, 2, none⟩ (.int .i64 8)) = w2 at hts ⊢
          obtain ⟨hb2, hg2⟩ := hts
          have hwr2 : v.ownBlock ≠ some b := hwr.out.ne
          have Hown : Hid (Owns w2 B 5 v (bcells o)) := hwr.out.own.kept_of hg2 (.inl hwr2)
          have hol : 8 * o.length ≤ 1073741824 := by
            have h5 := congrArg List.length hlr.out
            simp only [List.length_append, length_unpack, length_bitsOf] at h5
            omega
          have Hle1 : Hid (((bcells o).length + 1) * 1 ≤ 140737488355328) := by show _ ≤ _; rw [bcells_length]; omega
          have Hle2 : Hid ((bcells o).length + 1 ≤ maxLen) := by show _ ≤ _; rw [bcells_length]; unfold maxLen; omega
          have HBs : Hid (B ≤ w2.heap.size) := Nat.le_trans hBw (Nat.le_trans hbl.out.size hg2.size)
          have Hcells : Hid (∀ w3 : World, w2.grownBy w3 v.ownBlock → w3.heap[b]? = some (.cells #[v, .int .u64 (nn : Int), .int .i64 8] 83 (0, 0)) ∧ w3.cell? ⟨b, 0, none⟩ = some v ∧ w3.cell? ⟨b, 1, none⟩ = some (.int .u64 (nn : Int)) ∧ w3.cell? ⟨b, 2, none⟩ = some (.int .i64 8) ∧ w3.frozen? ⟨b, 0, none⟩ = false ∧ w3.frozen? ⟨b, 1, none⟩ = false ∧ w3.frozen? ⟨b, 2, none⟩ = false) := fun w3 hg => cells3 hb2 hg hwr2
          have d0 : w2.cell? ⟨b, 0, none⟩ = some v := by rw [cell_of_row _ _ _ _ _ _ hb2]; rfl
          have d1 : w2.cell? ⟨b, 1, none⟩ = some (.int .u64 (nn : Int)) := by rw [cell_of_row _ _ _ _ _ _ hb2]; rfl
          have d2 : w2.cell? ⟨b, 2, none⟩ = some (.int .i64 8) := by rw [cell_of_row _ _ _ _ _ _ hb2]; rfl
          have hA : ∀ O, (w2.alloc O).cell? ⟨b, 0, none⟩ = some v ∧ (w2.alloc O).cell? ⟨b, 1, none⟩ = some (.int .u64 (nn : Int)) := fun O => ⟨(cells3 hb2 (World.grownBy_alloc w2 O none) (by simp)).2.1, (cells3 hb2 (World.grownBy_alloc w2 O none) (by simp)).2.2.1⟩
          have hA0 : ∀ O, (w2.alloc O).cell? ⟨b, 0, none⟩ = some v := fun O => (hA O).1
          have hA1 : ∀ O, (w2.alloc O).cell? ⟨b, 1, none⟩ = some (.int .u64 (nn : Int)) := fun O => (hA O).2
          have Hg2 := Lib.hid hg2
          clear hA hb2 hg2 c0 c1 c2 f0 f1 f2 hol hwr2
          go_wp2_with fail
          go_region_law (refine step_push rfl (.tmp 60) (.tmp 66) 81 rfl B 5 (.int .u8 0) 1 elemBytes w2 v (bcells o) Hown.out (.int .u8 (nn : Int)) rfl Hle1.out Hle2.out HBs.out (by simp [Act.eval]) w2.heap.size (by simp [Act.eval]) (by first | exact grown_alloc_drew _ _ _ | exact World.grownBy_alloc _ _ _) (by exact heap_alloc_new _ _) ?_; intro g cap w3 ho3 hg3 hBg; have Hb3 := Lib.hid (Hcells.out w3 hg3).1; obtain ⟨e0, e1, e2, e3, e4, e5⟩ := (Hcells.out w3 hg3).2; have Ho3 := Lib.hid ho3; have Hg3 := Lib.hid hg3; clear ho3 hg3)
          all_goals
            go_wp2_with fail
            go_roundw
            case rel =>
              have hwf := WriterAt.flushed (B := B) (r' := r') hwr.out.hB HL8.out Hb3.out rfl (by have := Ho3.out; rw [HNN.out] at this; exact this)
              have hff := flush_frame (x := .slice (some ⟨g, 0, none⟩) ((bcells o).length + 1) cap) (y := .int .u64 0) (z := .int .i64 0) hbl.out hok.out hBw hwr.out.hB Hg2.out Hown.out Hg3.out
              refine ⟨s, (s : Int), o ++ [UInt8.ofNat (nat r')], [], _, rfl, rfl, by have := Hs.out; omega, ?_, hwf, hff.1, hff.2⟩
              show _ = _
              rw [hlr.out, HL3.out, flush o r' HL8.out]
              simp
            case measure => simp [intOf]; have := HMm.out; have := Hs.out; omega
    · have hm0 : m = 0 := by omega
      subst hm0
      have hM0 : M ≤ 0 := by omega
      clear hM
      go_wp2_with fail
      go_end0
      refine ⟨rfl, ⟨o, r, v, ?_, hwr.out⟩, hbl.out, hok.out⟩
      rw [hlr.out]; simp [bitsOf]
end Go.Proofs.YtihohljhjdmamaaGreat
