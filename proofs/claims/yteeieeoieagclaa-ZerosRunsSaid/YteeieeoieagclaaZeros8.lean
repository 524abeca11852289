/- What a Reader's close does. -/
import Derived.Test.YteeieeoieagclaaZeros7
import Derived.Test.YteeieeoieagclaaKit4
namespace Go.Proofs.Yteeieeoieagclaa
open Go.RowKit ZerosPlain
set_option linter.unusedVariables false

theorem elemB : ElemOf Try.prog 38 5 (.int .u8 0) 1 := ⟨Try.underlying38, by kernel_rfl, rfl⟩
/-- block b is a reader: the bytes out, and a run's two numbers -/
structure ReaderAt (w : World) (B b : Nat) (v : Value) (out : List UInt8) (n by_ : Nat) : Prop where
  hB : B ≤ b
  blk : w.heap[b]? = some (.cells #[v, .int .u64 (n : Nat), .int .u64 (by_ : Nat)] 42 (0, 0))
  own : Owns w B 5 v (bcells out)
theorem ReaderAt.ne {w : World} {B b : Nat} {v : Value} {out : List UInt8} {n y : Nat} (h : ReaderAt w B b v out n y) : v.ownBlock ≠ some b := h.own.ne_row h.blk (by decide)

set_option maxRecDepth 100000 in
set_option maxHeartbeats 2000000 in
theorem close_full (B b : Nat) (v : Value) (out : List UInt8) (n y : Nat) (w : World) (h : ReaderAt w B b v out n y) (hB : B ≤ w.heap.size) (hn : n ≤ 65537) (ho : out.length ≤ 65536) (hbig : 65536 < out.length + n) :
    Calls Try.prog 20 #[.pointer (some ⟨b, 0, none⟩)] w fun e w' => e = .returned (.int .i64 8) ∧ ∃ k, w' = w.drewN k := by
  obtain ⟨ao, cap, rfl, hnil⟩ := h.own.form
  obtain ⟨c0, c1, c2, f0, f1, f2⟩ := row3 h.blk
  rw [bcells_length] at c0
  have hl : (out.length : Int) ≤ 65536 := by omega
  have hw1 : IntKind.i64.wrap (65536 - (out.length : Int)) = 65536 - (out.length : Int) := IntWalk.i64_in _ (by omega)
  have hw2 : IntKind.u64.wrap (65536 - (out.length : Int)) = 65536 - (out.length : Int) := wrap64u_in _ (by omega) (by omega)
  have hlt : 65536 - (out.length : Int) < (n : Int) := by omega
  clear h hnil hbig ho hn f0 f1 f2 c2
  go_enter Try.func20, Try.ntmps20
  go_wp2_with fail
  go_quiet (fail)
  go_wp2_with fail
  go_ret
  exact ⟨rfl, _, rfl⟩

set_option maxRecDepth 100000 in
set_option maxHeartbeats 2000000 in
theorem close_room (B b : Nat) (v : Value) (out : List UInt8) (n y : Nat) (w : World) (h : ReaderAt w B b v out n y) (hB : B ≤ w.heap.size) (hr : out.length + n ≤ 65536) :
    Calls Try.prog 20 #[.pointer (some ⟨b, 0, none⟩)] w fun e w' => e = .returned (.int .i64 0) ∧ ∃ v', ReaderAt w' B b v' (out ++ List.replicate n 0) 0 0 ∧ Below B w w' := by
  have HR := Lib.hid h
  obtain ⟨ao, cap, hv, hnil⟩ := h.own.form
  rw [bcells_length] at hv
  have hblk := h.blk
  rw [hv] at hblk
  obtain ⟨c0, c1, c2, f0, f1, f2⟩ := row3 hblk
  have hl : (out.length : Int) ≤ 65536 := by omega
  have hw1 : IntKind.i64.wrap (65536 - (out.length : Int)) = 65536 - (out.length : Int) := IntWalk.i64_in _ (by omega)
  have hw2 : IntKind.u64.wrap (65536 - (out.length : Int)) = 65536 - (out.length : Int) := wrap64u_in _ (by omega) (by omega)
  have hlt : (n : Int) ≤ 65536 - (out.length : Int) := by omega
  have Hl1 : Hid (((bcells out).length + n) * 1 ≤ 140737488355328) := by show _ ≤ _; rw [bcells_length]; omega
  have Hl2 : Hid ((bcells out).length + n ≤ maxLen) := by show _ ≤ _; rw [bcells_length]; unfold maxLen; omega
  have Hblk := Lib.hid hblk
  have Hcells : Hid (∀ W : World, w.grownBy W v.ownBlock → W.heap[b]? = some (.cells #[.slice ao out.length cap, .int .u64 (n : Nat), .int .u64 (y : Nat)] 42 (0, 0))) := fun W hg => row_kept hblk hg (HR.out.ne)
  have Hv := Lib.hid hv
  clear h hnil hr hv hblk
  go_enter Try.func20, Try.ntmps20
  go_wp2_with fail
  go_quiet (fail)
  go_wp2_with fail
  have HO : Hid (Owns ((w.drewN nq).drew) B 5 (.slice ao out.length cap) (bcells out)) := by
    rw [← Hv.out]
    exact (HR.out.own.drewN nq).drew
  have HN : Hid (out.length + n = (bcells out).length + n) := by show _ = _; rw [bcells_length]
  have Hcells2 : Hid (∀ W : World, (w.drewN nq).drew.grownBy W (Value.slice ao out.length cap).ownBlock → W.heap[b]? = some (.cells #[.slice ao out.length cap, .int .u64 (n : Nat), .int .u64 (y : Nat)] 42 (0, 0))) := fun W hg => by
    refine Hcells.out W ?_
    rw [Hv.out]
    exact grown_trans (grown_drewN w nq _) (grown_trans (grown_drew _ _) hg)
  clear Hcells Hblk
  go_region_law (refine step_zeros' rfl (.tmp 20) (.tmp 25) 38 31 rfl .u64 .u64 Try.underlying31 B 5 (.int .u8 0) 1 elemB rfl rfl (.slice ao out.length cap) (bcells out) (by simp [Act.eval, Act.put]) HO.out n (by simp [Act.eval, Act.put]) Hl1.out Hl2.out hB (out.length + n) HN.out ?_; intro ao2 cap2 w1 ho1 hg1; have Hb1 := Lib.hid (Hcells2.out w1 hg1.grown); obtain ⟨e0, e1, e2, e3, e4, e5⟩ := row3 Hb1.out; have Ho1 := Lib.hid ho1; have Hg1 := Lib.hid hg1; clear ho1 hg1)
  all_goals
    go_wp2_with fail
    go_ret
    have h1 := heap_setCell_same w1 b 0 _ _ (.slice ao2 (out.length + n) cap2) Hb1.out
    have h2 := heap_setCell_same _ b 1 _ _ (.int .u64 0) h1
    have h3 := heap_setCell_same _ b 2 _ _ (.int .u64 0) h2
    have hg : w1.grownBy (((w1.setCell ⟨b, 0, none⟩ (.slice ao2 (out.length + n) cap2)).setCell ⟨b, 1, none⟩ (.int .u64 0)).setCell ⟨b, 2, none⟩ (.int .u64 0)) (some b) :=
      grown_trans (grown_setCell w1 ⟨b, 0, none⟩ _) (grown_trans (grown_setCell _ ⟨b, 1, none⟩ _) (grown_setCell _ ⟨b, 2, none⟩ _))
    have e0 : bcells (out ++ List.replicate n 0) = bcells out ++ List.replicate n (.int .u8 0) := by rw [bcells_append]; congr 1; simp [bcells]
    have ho2 : Owns w1 B 5 (.slice ao2 (out.length + n) cap2) (bcells (out ++ List.replicate n 0)) := by rw [e0]; exact Ho1.out
    refine ⟨rfl, .slice ao2 (out.length + n) cap2, ⟨HR.out.hB, by rw [h3]; rfl, ho2.kept_of hg (.inl ?_)⟩, ?_⟩
    · exact ho2.ne_row Hb1.out (by decide)
    · have hb1 := Hg1.out.below HO.out hB
      exact (Below.trans (below_drewN (below_drewN (Below.refl B w) nq) 1) hb1).trans (below_grown hg HR.out.hB (Nat.le_trans hB Hg1.out.grown.size))
end Go.Proofs.Yteeieeoieagclaa
