/- What a Reader's Add does. -/
import Derived.Test.YteeieeoieagclaaZeros8
namespace Go.Proofs.Yteeieeoieagclaa
open Go.RowKit ZerosPlain
set_option linter.unusedVariables false

set_option maxRecDepth 100000 in
set_option maxHeartbeats 2000000 in
theorem addr_digit (B b : Nat) (v : Value) (out : List UInt8) (run : List Nat) (n y x : Nat) (w : World) (h : ReaderAt w B b v out n y) (hB : B ≤ w.heap.size) (hr : Run run n y) (hy : y < 18446744073709551616) (hx : x < 2) :
    Calls Try.prog 19 #[.pointer (some ⟨b, 0, none⟩), .int .u64 (x : Nat)] w fun e w' => e = .returned (.tuple #[.bool false, .int .i64 0]) ∧ ∃ n' y', ReaderAt w' B b v out n' y' ∧ Run (run ++ [x]) n' y' ∧ y' < 18446744073709551616 ∧ Below B w w' := by
  have HR := Lib.hid h
  have HA := Lib.hid (add_state b 1 #[v, .int .u64 (n : Nat), .int .u64 (y : Nat)] 42 run n y x w h.blk rfl rfl hr hx hy)
  have HS : Hid (∀ W (n' y' : Nat), W.heap[b]? = some (.cells #[v, .int .u64 (n' : Nat), .int .u64 (y' : Nat)] 42 (0, 0)) → w.grownBy W (some b) → ReaderAt W B b v out n' y' ∧ Below B w W) := fun W n' y' hw hg =>
    ⟨⟨h.hB, hw, h.own.kept_of hg (.inl h.ne)⟩, below_grown hg h.hB hB⟩
  clear h hr hy
  by_cases hbig : num (run ++ [x]) ≤ 65536
  · have e : decide (num (run ++ [x]) ≤ 65536) = true := decide_eq_true hbig
    rw [e] at HA
    have Hbig := Lib.hid hbig
    clear e hbig
    go_enter Try.func19, Try.ntmps19
    go_wp2_with (first
      | (go_at_call 25; refine HA.out.mono ?_; rintro e w1 ⟨n', y', rfl, hy1, hr1, _, hb1, hg1⟩; have Hy1 := Lib.hid hy1; have Hr1 := Lib.hid hr1; have Hb1 := Lib.hid hb1; have Hg1 := Lib.hid hg1; clear hy1 hr1 hb1 hg1)
      | fail)
    go_ret2
    obtain ⟨h1, h2⟩ := HS.out w1 n' y' Hb1.out Hg1.out
    exact ⟨rfl, n', y', h1, Hr1.out Hbig.out, Hy1.out, h2⟩
  · have e : decide (num (run ++ [x]) ≤ 65536) = false := decide_eq_false hbig
    rw [e] at HA
    have Hbig : Hid (65536 < num (run ++ [x])) := by show _ < _; omega
    clear e hbig
    go_enter Try.func19, Try.ntmps19
    go_wp2_with (first
      | (go_at_call 25; refine HA.out.mono ?_; rintro e w1 ⟨n', y', rfl, hy1, _, hr1, hb1, hg1⟩; have Hy1 := Lib.hid hy1; have Hr1 := Lib.hid hr1; have Hb1 := Lib.hid (show w1.heap[b]? = some (.cells #[v, .int .u64 (n' : Nat), .int .u64 (y' : Nat)] 42 (0, 0)) from hb1); have Hg1 := Lib.hid hg1; clear hy1 hr1 hb1 hg1; obtain ⟨e0, e1, e2, e3, e4, e5⟩ := row3 Hb1.out)
      | fail)
    go_ret2
    have h3 := heap_setCell_same w1 b 1 _ _ (.int .u64 (65537 : Nat)) Hb1.out
    obtain ⟨h1, h2⟩ := HS.out (w1.setCell ⟨b, 1, none⟩ (.int .u64 (65537 : Nat))) 65537 y' (by rw [h3]; rfl) (grown_trans Hg1.out (grown_setCell w1 ⟨b, 1, none⟩ _))
    exact ⟨rfl, 65537, y', h1, Hr1.out Hbig.out, Hy1.out, h2⟩

/-- close, at a run -/
theorem close_run (B b : Nat) (v : Value) (out : List UInt8) (run : List Nat) (n y : Nat) (w : World) (h : ReaderAt w B b v out n y) (hB : B ≤ w.heap.size) (hr : Run run n y) (ho : out.length ≤ 65536) :
    (65536 < out.length + num run → Calls Try.prog 20 #[.pointer (some ⟨b, 0, none⟩)] w fun e w' => e = .returned (.int .i64 8) ∧ Below B w w') ∧
    (out.length + num run ≤ 65536 → Calls Try.prog 20 #[.pointer (some ⟨b, 0, none⟩)] w fun e w' => e = .returned (.int .i64 0) ∧ ∃ v', ReaderAt w' B b v' (out ++ List.replicate (num run) 0) 0 0 ∧ Below B w w') := by
  have hn := hr.n
  unfold cap at hn
  constructor
  · intro hb
    refine (close_full B b v out n y w h hB (by omega) ho (by omega)).mono ?_
    rintro e w' ⟨rfl, k, rfl⟩
    exact ⟨rfl, below_drewN (Below.refl B w) k⟩
  · intro hb
    have : n = num run := by omega
    subst this
    exact close_room B b v out _ y w h hB hb

set_option maxRecDepth 100000 in
set_option maxHeartbeats 2000000 in
theorem addr_full (B b : Nat) (v : Value) (out : List UInt8) (run : List Nat) (n y x : Nat) (w : World) (h : ReaderAt w B b v out n y) (hB : B ≤ w.heap.size) (hr : Run run n y) (ho : out.length ≤ 65536) (hx : 2 ≤ x) (hx64 : x < 18446744073709551616) (hb : 65536 < out.length + num run) :
    Calls Try.prog 19 #[.pointer (some ⟨b, 0, none⟩), .int .u64 (x : Nat)] w fun e w' => e = .returned (.tuple #[.bool false, .int .i64 8]) ∧ Below B w w' := by
  have HC := Lib.hid ((close_run B b v out run n y w h hB hr ho).1 hb)
  clear h hr hb ho
  go_enter Try.func19, Try.ntmps19
  go_wp2_with (first
    | (go_at_call 20; refine HC.out.mono ?_; rintro e w1 ⟨rfl, hb1⟩; have Hb1 := Lib.hid hb1; clear hb1)
    | fail)
  go_ret2
  exact ⟨rfl, Hb1.out⟩
set_option maxRecDepth 100000 in
set_option maxHeartbeats 2000000 in
theorem addr_code (B b : Nat) (v : Value) (out : List UInt8) (run : List Nat) (n y x : Nat) (w : World) (h : ReaderAt w B b v out n y) (hB : B ≤ w.heap.size) (hr : Run run n y) (ho : out.length ≤ 65536) (hx : 257 < x) (hx64 : x < 18446744073709551616) (hb : out.length + num run ≤ 65536) :
    Calls Try.prog 19 #[.pointer (some ⟨b, 0, none⟩), .int .u64 (x : Nat)] w fun e w' => e = .returned (.tuple #[.bool false, .int .i64 7]) ∧ Below B w w' := by
  have HC := Lib.hid ((close_run B b v out run n y w h hB hr ho).2 hb)
  have hx2 : ¬ (x : Int) < 2 := by omega
  clear h hr hb ho
  go_enter Try.func19, Try.ntmps19
  go_wp2_with (first
    | (go_at_call 20; refine HC.out.mono ?_; rintro e w1 ⟨rfl, v1, hr1, hb1⟩; have Hb1 := Lib.hid hb1; clear hb1 hr1)
    | fail)
  go_ret2
  exact ⟨rfl, Hb1.out⟩
set_option maxRecDepth 100000 in
set_option maxHeartbeats 2000000 in
theorem addr_end (B b : Nat) (v : Value) (out : List UInt8) (run : List Nat) (n y : Nat) (w : World) (h : ReaderAt w B b v out n y) (hB : B ≤ w.heap.size) (hr : Run run n y) (ho : out.length ≤ 65536) (hb : out.length + num run ≤ 65536) :
    Calls Try.prog 19 #[.pointer (some ⟨b, 0, none⟩), .int .u64 (257 : Nat)] w fun e w' => e = .returned (.tuple #[.bool true, .int .i64 0]) ∧ ∃ v', ReaderAt w' B b v' (out ++ List.replicate (num run) 0) 0 0 ∧ Below B w w' := by
  have HC := Lib.hid ((close_run B b v out run n y w h hB hr ho).2 hb)
  clear h hr hb ho
  go_enter Try.func19, Try.ntmps19
  go_wp2_with (first
    | (go_at_call 20; refine HC.out.mono ?_; rintro e w1 ⟨rfl, v1, hr1, hb1⟩; have Hb1 := Lib.hid hb1; have Hr1 := Lib.hid hr1; clear hb1 hr1)
    | fail)
  go_ret2
  exact ⟨rfl, v1, Hr1.out, Hb1.out⟩
theorem close_form {B b : Nat} {w : World} (N : Nat) {out : List UInt8} (hN : out.length = N)
    (h : Calls Try.prog 20 #[.pointer (some ⟨b, 0, none⟩)] w fun e w' => e = .returned (.int .i64 0) ∧ ∃ v', ReaderAt w' B b v' out 0 0 ∧ Below B w w') :
    Calls Try.prog 20 #[.pointer (some ⟨b, 0, none⟩)] w fun e w' => e = .returned (.int .i64 0) ∧ ∃ ao cap, ReaderAt w' B b (.slice ao N cap) out 0 0 ∧ Below B w w' := by
  refine h.mono ?_
  rintro e w' ⟨rfl, v', hr, hb⟩
  obtain ⟨ao, cap, rfl, _⟩ := hr.own.form
  rw [bcells_length, hN] at hr
  exact ⟨rfl, ao, cap, hr, hb⟩
set_option maxRecDepth 100000 in
set_option maxHeartbeats 2000000 in
theorem addr_brim (B b : Nat) (v : Value) (out : List UInt8) (run : List Nat) (n y x : Nat) (w : World) (h : ReaderAt w B b v out n y) (hB : B ≤ w.heap.size) (hr : Run run n y) (ho : out.length ≤ 65536) (hx : 2 ≤ x) (hx2 : x < 257) (hb : out.length + num run = 65536) :
    Calls Try.prog 19 #[.pointer (some ⟨b, 0, none⟩), .int .u64 (x : Nat)] w fun e w' => e = .returned (.tuple #[.bool false, .int .i64 8]) ∧ Below B w w' := by
  have HC := Lib.hid (close_form 65536 (by simp [hb]) ((close_run B b v out run n y w h hB hr ho).2 (by omega)))
  have hx3 : ((x : Int) == 257) = false := by simp; omega
  clear h hr hb ho
  go_enter Try.func19, Try.ntmps19
  go_wp2_with (first
    | (go_at_call 20; refine HC.out.mono ?_; rintro e w1 ⟨rfl, ao1, cap1, hr1, hb1⟩; have Hb1 := Lib.hid hb1; obtain ⟨c0, c1, c2, f0, f1, f2⟩ := row3 hr1.blk; clear hb1 hr1)
    | fail)
  go_ret2
  exact ⟨rfl, Hb1.out⟩
set_option maxRecDepth 100000 in
set_option maxHeartbeats 4000000 in
theorem addr_byte (B b : Nat) (v : Value) (out : List UInt8) (run : List Nat) (n y x : Nat) (w : World) (h : ReaderAt w B b v out n y) (hB : B ≤ w.heap.size) (hr : Run run n y) (ho : out.length ≤ 65536) (hx : 2 ≤ x) (hx2 : x < 257) (hb : out.length + num run < 65536) :
    Calls Try.prog 19 #[.pointer (some ⟨b, 0, none⟩), .int .u64 (x : Nat)] w fun e w' => e = .returned (.tuple #[.bool false, .int .i64 0]) ∧ ∃ v', ReaderAt w' B b v' (out ++ List.replicate (num run) 0 ++ [UInt8.ofNat (x - 1)]) 0 0 ∧ Below B w w' := by
  obtain ⟨N, hN⟩ : ∃ N, N = out.length + num run := ⟨_, rfl⟩
  have HC := Lib.hid (close_form N (by simp [hN]) ((close_run B b v out run n y w h hB hr ho).2 (by omega)))
  have hx3 : ((x : Int) == 257) = false := by simp; omega
  have hN2 : ((N : Int) == 65536) = false := by simp; omega
  obtain ⟨O, hO⟩ : ∃ O, O = out ++ List.replicate (num run) 0 := ⟨_, rfl⟩
  rw [← hO] at HC ⊢
  have hOl : O.length = N := by rw [hO, hN]; simp
  have HOl := Lib.hid hOl
  have Hl1 : Hid (((bcells O).length + 1) * 1 ≤ 140737488355328) := by show _ ≤ _; rw [bcells_length]; omega
  have Hl2 : Hid ((bcells O).length + 1 ≤ maxLen) := by show _ ≤ _; rw [bcells_length]; unfold maxLen; omega
  have hxc : (UInt8.ofNat (x - 1)).toNat = x - 1 := by rw [UInt8.toNat_ofNat', Nat.mod_eq_of_lt (by omega)]
  obtain ⟨q, hq⟩ : ∃ q, q = x - 1 := ⟨_, rfl⟩
  have hxq : (x : Int) - 1 = (q : Int) := by omega
  have hq8 : IntKind.u8.wrap (q : Int) = (q : Int) := by rw [IntKind.wrap_u8]; omega
  have hq8' : IntKind.u8.wrap ((x : Int) - 1) = (q : Int) := by rw [IntKind.wrap_u8]; omega
  rw [← hq] at hxc ⊢
  have Hxc := Lib.hid hxc
  clear h hr hb ho hO hOl hN hxc hq
  go_enter Try.func19, Try.ntmps19
  go_wp2_with (first
    | (go_at_call 20; refine HC.out.mono ?_; rintro e w1 ⟨rfl, ao1, cap1, hr1, hb1⟩; have Hb1 := Lib.hid hb1; obtain ⟨c0, c1, c2, f0, f1, f2⟩ := row3 hr1.blk; have Hr1 := Lib.hid hr1; have HB1 := Lib.hid (Nat.le_trans hB hb1.size); clear hb1 hr1)
    | (at_builtin; refine wpList_add1 rfl (.tmp 41) (.tmp 45) 38 rfl B 5 (.int .u8 0) 1 elemB _ (bcells O) rfl Hr1.out.own (.int .u8 (q : Nat)) rfl rfl Hl1.out Hl2.out HB1.out ?_; intro g cap w2 ho2 hg2; have HO2 := Lib.hid ho2; have HG2 := Lib.hid hg2; have Hb2 := Lib.hid (hg2.row Hr1.out.blk Hr1.out.ne); obtain ⟨e0, e1, e2, e3, e4, e5⟩ := row3 Hb2.out; clear ho2 hg2))
  go_ret2
  have h3 := heap_setCell_same w2 b 0 _ _ (.slice (some ⟨g, 0, none⟩) ((bcells O).length + 1) cap) Hb2.out
  have hgs := grown_setCell w2 ⟨b, 0, none⟩ (.slice (some ⟨g, 0, none⟩) ((bcells O).length + 1) cap)
  have e0 : bcells (O ++ [UInt8.ofNat q]) = bcells O ++ [.int .u8 (q : Nat)] := by
    rw [bcells_append]; congr 1
    show [Value.int .u8 ((UInt8.ofNat q).toNat : Int)] = _
    rw [Hxc.out]
  refine ⟨rfl, .slice (some ⟨g, 0, none⟩) ((bcells O).length + 1) cap, ⟨Hr1.out.hB, by rw [h3]; rfl, ?_⟩, ?_⟩
  · rw [e0]
    exact HO2.out.kept_of hgs (.inl (HO2.out.ne_row Hb2.out (by decide)))
  · exact (Hb1.out.trans (HG2.out.below Hr1.out.own HB1.out)).trans (below_grown hgs Hr1.out.hB (Nat.le_trans HB1.out HG2.out.grown.size))
end Go.Proofs.Yteeieeoieagclaa
