/- What crc's step, More, Sum, Tail do. -/
import Derived.Test.YtihohljhjdmamaaGreatRows
import Derived.Test.YtihohljhjdmamaaGreatKit
import Derived.Test.YtihohljhjdmamaaGreatCrcPlain
import Derived.Handy
namespace Go.Proofs.YtihohljhjdmamaaGreat
open Go.RowKit CrcPlain
set_option linter.unusedVariables false

theorem and1 (x : Nat) (hx : x < 2 ^ 32) : bits .and .u32 (x : Int) 1 = ((x % 2 : Nat) : Int) := by
  have := u32_and_nat x 1 (by omega) (by omega)
  rw [show ((1 : Nat) : Int) = 1 from rfl] at this
  rw [this]
  have h := Nat.and_two_pow_sub_one_eq_mod x 1
  simp

set_option maxRecDepth 100000 in
set_option maxHeartbeats 1000000 in
theorem step_any (r : Nat) (w : World) (hr : r < 2 ^ 32) :
    Calls Tryz.prog 103 #[.int .u32 (r : Nat)] w fun e w' => e = .returned (.int .u32 (stepN 8 r : Nat)) ∧ w' = w := by
  go_enter Tryz.func103, Tryz.ntmps103
  go_wp2
  go_loopw [0, 3] (fun rv iv wr => ∃ k x : Nat, iv = .int .i64 (k : Nat) ∧ k ≤ 8 ∧ rv = .int .u32 (x : Nat) ∧ Hid (x = stepN k r) ∧ wr = w) (fun _ iv _ => 8 - (intOf iv).toNat)
  case atStart => exact ⟨0, r, rfl, by omega, rfl, rfl, rfl⟩
  case round =>
    obtain ⟨k, x, rfl, hk, rfl, hx, rfl⟩ := hrel
    by_cases hlt : k < 8
    · have hx32 : x < 2 ^ 32 := by rw [hx.out]; exact stepN_lt hr k
      have ha := and1 x hx32
      have hd : (x : Int) / 2 = ((x / 2 : Nat) : Int) := by omega
      by_cases hp : x % 2 = 1
      · rw [hp] at ha
        have hxr := u32_xor_nat (x / 2) 3988292384 (by omega) (by omega)
        rw [← hd] at hxr
        have hf : (x / 2 ^^^ 3988292384) = stepN (k + 1) r := by
          show _ = f (stepN k r)
          rw [← hx.out]; unfold f; rw [if_pos hp]
        rw [hf] at hxr
        obtain ⟨y, hy⟩ : ∃ y, y = stepN (k + 1) r := ⟨_, rfl⟩
        rw [← hy] at hxr
        have Hy := Lib.hid hy
        clear hf hy hd hp hx32
        have hand : bits .and .u32 3988292384 4294967295 = 3988292384 := by decide +kernel
        have hxr2 : bits .xor .u32 ((x : Int) / 2) 3988292384 = (y : Int) := hxr
        clear hxr
        go_wp2_with fail
        refine ⟨⟨k + 1, y, by rw [Int.natCast_add]; rfl, by omega, ?_, Hy.out, trivial⟩, by simp [intOf]; omega⟩
        rfl
      · have hp0 : x % 2 = 0 := by omega
        rw [hp0] at ha
        have hxr := u32_xor_nat (x / 2) 0 (by omega) (by omega)
        rw [← hd] at hxr
        have hf : x / 2 ^^^ 0 = stepN (k + 1) r := by
          show _ = f (stepN k r)
          rw [← hx.out]; unfold f; rw [if_neg hp, Nat.xor_zero]
        rw [hf] at hxr
        obtain ⟨y, hy⟩ : ∃ y, y = stepN (k + 1) r := ⟨_, rfl⟩
        rw [← hy] at hxr
        have Hy := Lib.hid hy
        have ha2 : bits .and .u32 (x : Int) 1 = 0 := ha
        clear hf hy hd hp hx32 hp0 ha
        have hand : bits .and .u32 3988292384 0 = 0 := by decide +kernel
        have hxr2 : bits .xor .u32 ((x : Int) / 2) 0 = (y : Int) := hxr
        clear hxr
        go_wp2_with fail
        refine ⟨⟨k + 1, y, by rw [Int.natCast_add]; rfl, by omega, ?_, Hy.out, trivial⟩, by simp [intOf]; omega⟩
        rfl
    · have hk8 : k = 8 := by omega
      have Hk8 := Lib.hid hk8
      clear hk8
      go_wp2_with fail
      go_ret
      refine ⟨?_, rfl⟩
      have h1 := hx.out
      rw [Hk8.out] at h1
      rw [← h1]
      rfl

theorem not32 (x : Nat) (hx : x < 2 ^ 32) : bits .xor .u32 IntKind.u32.max (x : Int) = ((4294967295 - x : Nat) : Int) := by
  have h := u32_xor_nat 4294967295 x (by omega) (by omega)
  have h2 : bits .xor .u32 IntKind.u32.max (x : Int) = ((4294967295 ^^^ x : Nat) : Int) := h
  rw [h2, Nat.xor_comm]
  congr 1
  apply Nat.eq_of_testBit_eq
  intro i
  rw [Nat.testBit_xor, show (4294967295 : Nat) - x = 2 ^ 32 - (x + 1) by omega, Nat.testBit_two_pow_sub_succ hx, show (4294967295 : Nat) = 2 ^ 32 - 1 by decide, Nat.testBit_two_pow_sub_one]
  by_cases h : i < 32
  · simp [h]
  · have : x.testBit i = false := Nat.testBit_lt_two_pow (Nat.lt_of_lt_of_le hx (Nat.pow_le_pow_right (by decide) (by omega)))
    simp [h, this]

set_option maxRecDepth 100000 in
set_option maxHeartbeats 1000000 in
theorem more_any (s : Nat) (b : ByteArray) (w : World) (hs : s < 2 ^ 32) (hb : b.size ≤ 1073741824) :
    Calls Tryz.prog 99 #[.int .u32 (s : Nat), .string b] w fun e w' => e = .returned (.int .u32 (more s b.data.toList : Nat)) ∧ w' = w := by
  have HS := Lib.hid (fun r (hr : r < 2 ^ 32) => step_any r w hr)
  have hn := not32 s hs
  have hsg : IntKind.u32.signed = false := rfl
  go_enter Tryz.func99, Tryz.ntmps99
  go_wp2
  go_loopw [5, 11] (fun rv iv wr => ∃ k x : Nat, iv = .int .i64 (k : Nat) ∧ k ≤ b.size ∧ rv = .int .u32 (x : Nat) ∧ Hid (x = run (4294967295 - s) (b.data.toList.take k)) ∧ wr = w) (fun _ iv _ => b.size - (intOf iv).toNat)
  case atStart => exact ⟨0, 4294967295 - s, rfl, by omega, rfl, rfl, rfl⟩
  case round =>
    obtain ⟨k, x, rfl, hk, rfl, hx, rfl⟩ := hrel
    have hx32 : x < 2 ^ 32 := by rw [hx.out]; exact run_lt (by omega) _
    clear hn
    by_cases hlt : k < b.size
    · have hc := b[k].toNat_lt
      have hwc : IntKind.u32.wrap (b[k].toNat : Int) = (b[k].toNat : Int) := by rw [IntKind.wrap_u32]; omega
      have hx1 := u32_xor_nat x b[k].toNat (by omega) (by omega)
      have hlt1 : x ^^^ b[k].toNat < 2 ^ 32 := Nat.xor_lt_two_pow hx32 (by omega)
      have hx2 := u32_and_nat (x ^^^ b[k].toNat) 255 (by omega) (by omega)
      have h255 : (x ^^^ b[k].toNat) &&& 255 = (x ^^^ b[k].toNat) % 256 := Nat.and_two_pow_sub_one_eq_mod _ 8
      rw [h255] at hx2
      obtain ⟨y, hy⟩ : ∃ y, y = (x ^^^ b[k].toNat) % 256 := ⟨_, rfl⟩
      rw [← hy] at hx2
      have hy32 : y < 2 ^ 32 := by omega
      have hst := stepN_lt hy32 8
      have hx3 := u32_xor_nat (x / 256) (stepN 8 y) (by omega) (by omega)
      have hd : (x : Int) / 256 = ((x / 256 : Nat) : Int) := by omega
      rw [← hd] at hx3
      have hup : x / 256 ^^^ stepN 8 y = upd x b[k] := by unfold upd; rw [hy]
      rw [hup] at hx3
      have hnext : upd x b[k] = run (4294967295 - s) (b.data.toList.take (k + 1)) := by
        have h1 := data_at b k hlt
        rw [hx.out, List.take_add_one, h1, run_append]
        rfl
      obtain ⟨z, hz⟩ : ∃ z, z = upd x b[k] := ⟨_, rfl⟩
      rw [← hz] at hx3 hnext
      have Hnext := Lib.hid hnext
      have HSy := Lib.hid (HS.out y hy32)
      obtain ⟨xc, hxc⟩ : ∃ xc, xc = x ^^^ b[k].toNat := ⟨_, rfl⟩
      rw [← hxc] at hx1 hx2
      have hx2' : bits .and .u32 (xc : Int) 255 = (y : Int) := hx2
      generalize stepN 8 y = sy at *
      clear hxc hz hnext hy hup hd hst h255 hlt1 hc hy32 hx32 hx2 HS
      go_wp2_with (first
        | (go_at_call 103; refine HSy.out.mono ?_; rintro e w1 ⟨rfl, rfl⟩)
        | fail)
      exact ⟨⟨k + 1, z, by rw [Int.natCast_add]; rfl, by omega, rfl, Hnext.out, trivial⟩, by simp [intOf]; omega⟩
    · have hn := not32 x hx32
      have hlt' : ¬ ((k : Int) < (b.size : Int)) := by omega
      go_wp2_with fail
      go_ret
      refine ⟨?_, rfl⟩
      have h1 := hx.out
      rw [List.take_of_length_le (by rw [size_data]; omega)] at h1
      unfold more
      rw [← h1]
      rfl

set_option maxRecDepth 100000 in
set_option maxHeartbeats 1000000 in
theorem sum_one (g : Nat) (b : ByteArray) (w : World) (hc : w.cell? ⟨g, 0, none⟩ = some (.string b)) (hb : b.size ≤ 1073741824) :
    Calls Tryz.prog 89 #[.slice (some ⟨g, 0, none⟩) 1 1] w fun e w' => e = .returned (.int .u32 (CrcPlain.sum b.data.toList : Nat)) ∧ w' = w := by
  have HM := Lib.hid (more_any 0 b w (by omega) hb)
  go_enter Tryz.func89, Tryz.ntmps89
  go_wp2
  go_loopw [3, 8] (fun rv iv wr => ((iv = .int .i64 0 ∧ rv = .int .u32 0) ∨ (iv = .int .i64 1 ∧ rv = .int .u32 (CrcPlain.sum b.data.toList : Nat))) ∧ wr = w) (fun _ iv _ => 1 - (intOf iv).toNat)
  case atStart => exact ⟨.inl ⟨rfl, rfl⟩, rfl⟩
  case round =>
    obtain ⟨⟨rfl, rfl⟩ | ⟨rfl, rfl⟩, rfl⟩ := hrel
    · go_wp2_with (first
        | (go_at_call 99; refine HM.out.mono ?_; rintro e w1 ⟨rfl, rfl⟩)
        | fail)
      exact ⟨⟨.inr ⟨rfl, rfl⟩, trivial⟩, by simp [intOf]⟩
    · go_wp2_with fail
      go_ret
      exact ⟨rfl, rfl⟩
end Go.Proofs.YtihohljhjdmamaaGreat
