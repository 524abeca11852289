/- What (*mtf.Row).To and From do to a right row in memory. -/
import Derived.Test.YteopmojpnebjfaaLift
import Derived.Test.YteopmojpnebjfaaShelf
import Derived.Test.YteopmojpnebjfaaBuilderW
namespace Go.Proofs.Yteopmojpnebjfaa
open Go.RowKit MtfPlain

theorem bytesOf_nats (l : List UInt8) : Lib.bytesOf (l.map fun b => (b.toNat : Int)) = l := by
  unfold Lib.bytesOf
  rw [List.map_map]
  have : (fun b : UInt8 => (UInt8.ofNat (b.toNat : Int).toNat)) = id := by
    funext b; simp
  first
    | (rw [show ((fun n : Int => UInt8.ofNat n.toNat) ∘ fun b : UInt8 => (b.toNat : Int)) = id from by funext b; simp]; simp)
    | (simp)

set_option maxRecDepth 100000 in
set_option maxHeartbeats 400000 in
theorem to_any (b : Nat) (r : List UInt8) (c : UInt8) (w : World) (hf : full r) (hb : w.heap[b]? = some (.cells (bcells r).toArray 41 (0, 0))) :
    Calls Try.prog 19 #[.pointer (some ⟨b, 0, none⟩), .int .u8 c.toNat] w fun e w' => e = .returned (.int .u8 (UInt8.ofNat (idx r c)).toNat) ∧
      w'.heap[b]? = some (.cells (bcells (front r (idx r c))).toArray 41 (0, 0)) ∧ w.grownBy w' (some b) := by
  obtain ⟨h1, h2, h3⟩ := idx_full hf c
  have hl := hf.1
  have hix : Calls Try.prog 27 #[.slice (some ⟨b, 0, none⟩) 256 256, .int .u8 c.toNat] w fun e w' => e = .returned (.int .i64 (idx r c : Int)) ∧ w = w' := by
    refine (Try.bytes_IndexByte b 0 256 256 (r.map fun b => (b.toNat : Int)) c.toNat w (by simp [hl]) (fun i hi => ?_)).mono ?_
    · have hi' : i < r.length := by omega
      have := row_of_bcells hb i hi'
      rw [Nat.zero_add, this]
      simp [List.getD, List.getElem?_eq_getElem hi']
    · rintro e w' ⟨rfl, rfl⟩
      refine ⟨ret_int ?_, rfl⟩
      rw [bytesOf_nats, ← h1]
      congr 1
      simp
  have hlift := lift_any b r (idx r c) w hl h2 hb
  generalize hi : idx r c = i at *
  have HB := Lib.hid hb
  have HX := Lib.hid hix
  have HLf := Lib.hid hlift
  clear hb hix hlift h1 h3 hl hi hf
  have h4 : (i : Int) < 256 := by omega
  go_enter Try.func19, Try.ntmps19
  go_wp2_with (first | (go_at_call 27; refine HX.out.mono ?_; rintro e w' ⟨rfl, rfl⟩) | (go_at_call 28; refine HLf.out.mono ?_; rintro e w1 ⟨rfl, H1, H2⟩))
  go_ret
  refine ⟨?_, H1, H2⟩
  show Ending.returned (.int .u8 _) = _
  refine ret_int ?_
  rw [toNat_ofNat_lt h2]

set_option maxRecDepth 100000 in
set_option maxHeartbeats 400000 in
theorem from_any (b : Nat) (r : List UInt8) (d : UInt8) (w : World) (hf : full r) (hb : w.heap[b]? = some (.cells (bcells r).toArray 41 (0, 0))) :
    Calls Try.prog 22 #[.pointer (some ⟨b, 0, none⟩), .int .u8 d.toNat] w fun e w' => e = .returned (.int .u8 (r.getD d.toNat 0).toNat) ∧
      w'.heap[b]? = some (.cells (bcells (front r d.toNat)).toArray 41 (0, 0)) ∧ w.grownBy w' (some b) := by
  have hlift := lift_any b r d.toNat w hf.1 d.toNat_lt hb
  have hd := d.toNat_lt
  have HLf := Lib.hid hlift
  clear hlift hb hf
  go_enter Try.func22, Try.ntmps22
  go_wp2_with (first | (go_at_call 28; refine HLf.out.mono ?_; rintro e w1 ⟨rfl, H1, H2⟩))
  go_ret
  exact ⟨rfl, H1, H2⟩
end Go.Proofs.Yteopmojpnebjfaa
