/- What bits' get does: the number of some of right bits' bits; its place and width are within them. -/
import Derived.Test.YtihohljhjdmamaaGreatRows
import Derived.Test.YtihohljhjdmamaaGreatKit
import Derived.Test.YtihohljhjdmamaaGreatBitsPlain
import Derived.Deep.QuietTactic
import Derived.BigQuiet
import Derived.Handy
namespace Go.Proofs.YtihohljhjdmamaaGreat
open Go.RowKit BitsPlain
set_option linter.unusedVariables false

theorem get_round (b : ByteArray) (at0 d k q r s : Nat) (hq : q < b.size) (hqr : at0 + d = 8 * q + r) (hk : s + k + r = 8) :
    nat (((unpack b.data.toList).drop at0).take (d + k)) = nat (((unpack b.data.toList).drop at0).take d) * 2 ^ k + b[q].toNat / 2 ^ s % 2 ^ k := by
  have hq' : q < b.data.toList.length := by rw [size_data]; exact hq
  have hg : b.data.toList[q] = b[q] := by
    have := data_at b q hq
    rw [List.getElem?_eq_getElem hq'] at this
    exact Option.some.inj this
  have h1 := unpack_slice b.data.toList q r k hq' (by omega)
  rw [hg] at h1
  rw [List.take_add, nat_append, List.drop_drop, hqr, h1, nat_slice_bitsOf _ _ _ _ (by omega)]
  have hl : (List.take k (List.drop r (bitsOf b[q].toNat 8))).length = k := by
    rw [List.length_take, List.length_drop, length_bitsOf]; omega
  rw [hl, show 8 - r - k = s by omega]

set_option maxRecDepth 100000 in
set_option maxHeartbeats 1000000 in
theorem get_any (b : ByteArray) (n : Int) (at0 width : Nat) (w : World) (hw : width ≤ 64) (ha : at0 + width ≤ 8 * b.size) (hb : b.size ≤ 1073741824) :
    Calls Tryz.prog 55 #[.agg #[.string b, .int .i64 n], .int .i64 at0, .int .i64 width] w fun e w' => e = .returned (.int .u64 (nat (((unpack b.data.toList).drop at0).take width) : Nat)) ∧ Below w.heap.size w w' := by
  go_enter Tryz.func55, Tryz.ntmps55
  go_wp2
  go_loopw [7, 1, 2] (fun nv av wv wr => ∃ (d m : Nat) (A M : Int), d + m = width ∧ nv = .int .u64 (nat (((unpack b.data.toList).drop at0).take d) : Nat) ∧ av = .int .i64 A ∧ A = ((at0 + d : Nat) : Int) ∧ wv = .int .i64 M ∧ M = (m : Int) ∧ Below w.heap.size w wr ∧ wr.cell? ⟨w.heap.size, 0, none⟩ = some (.string b)) (fun _ _ wv _ => (intOf wv).toNat)
  case atStart =>
    refine ⟨0, width, _, _, by omega, rfl, rfl, by omega, rfl, rfl, (Below.refl _ _).alloc (Nat.le_refl _) _, ?_⟩
    rw [cell_of_row _ _ _ _ _ _ (heap_alloc_new _ _)]; rfl
  case round =>
    obtain ⟨d, m, A, M, hd, rfl, rfl, hA, rfl, hM, hbl, hc⟩ := hrel
    by_cases hlt : 0 < m
    · obtain ⟨q, r, hq⟩ : ∃ q r : Nat, at0 + d = 8 * q + r ∧ r < 8 := ⟨(at0 + d) / 8, (at0 + d) % 8, by omega, by omega⟩
      have hqb : q < b.size := by omega
      have hA8 : A % 8 = (r : Int) := by omega
      have hAq : A / 8 = (q : Int) := by omega
      obtain ⟨h, hh⟩ : ∃ h : Nat, h + r = 8 := ⟨8 - r, by omega⟩
      have hH : 8 - (r : Int) = (h : Int) := by omega
      have hA0 : 0 ≤ A := by omega
      have hA1 : A ≤ 8589934592 := by omega
      have hM0 : 0 < M := by omega
      have hM1 : M ≤ 64 := by omega
      have hh0 : (h : Int) ≤ 8 := by omega
      have hcb := b[q].toNat_lt
      have hHm := Lib.hid hM
      have hHa := Lib.hid hA
      have hHd := Lib.hid hd
      have hHq := Lib.hid hq
      have hHh := Lib.hid hh
      generalize hn : nat (((unpack b.data.toList).drop at0).take d) = n0
      have hHn := Lib.hid hn
      clear hn hq hh hd
      by_cases hk : m ≤ h
      · have hk' : M ≤ (h : Int) := by omega
        obtain ⟨s, hs⟩ : ∃ s : Nat, s + m = h := ⟨h - m, by omega⟩
        have hS : (h : Int) - M = (s : Int) := by omega
        have hs0 : (s : Int) < 64 := by omega
        have hpart := u64_mask (b[q].toNat / 2 ^ s) m (Nat.lt_of_le_of_lt (Nat.div_le_self _ _) (by omega)) (by omega)
        have hMn : M.toNat = m := by omega
        have hcast : ((b[q].toNat / 2 ^ s : Nat) : Int) = (b[q].toNat : Int) / 2 ^ s := by simp
        rw [hcast, ← hMn] at hpart
        clear hcast
        obtain ⟨p, hp⟩ : ∃ p, p = b[q].toNat / 2 ^ s % 2 ^ M.toNat := ⟨_, rfl⟩
        rw [← hp] at hpart
        have hHp := Lib.hid hp
        have hHmn := Lib.hid hMn
        clear hM hA hp hMn
        go_wp2_with fail
        go_quiet (fail)
        clear hpart
        go_wp2
        go_roundw
        case rel =>
          have hround := get_round b at0 d m q r s hqb hHq.out.1 (by have := hHh.out; omega)
          have hd2 : d + m ≤ 64 := by have := hHd.out; omega
          have hlt64 := nat_lt (((unpack b.data.toList).drop at0).take (d + m))
          have hlen : (((unpack b.data.toList).drop at0).take (d + m)).length ≤ 64 := Nat.le_trans (List.length_take_le _ _) hd2
          have hpw := pow_le_pow2 hlen
          have hmn := hHmn.out
          refine ⟨d + m, 0, A + M, 0, by have := hHd.out; omega, ?_, rfl, by have := hHa.out; have := hHm.out; omega, rfl, rfl, below_drewN hbl _, hc⟩
          rw [hmn, hround, hHn.out]
          have e1 : p = b[q].toNat / 2 ^ s % 2 ^ m := by rw [hHp.out, hmn]
          rw [← e1]
          congr 1
          refine u64_join n0 m p ?_ (by omega) (by rw [e1]; exact Nat.mod_lt _ (Nat.pow_pos (by decide)))
          rw [hround, hHn.out] at hlt64
          have : (2 : Nat) ^ 64 = 18446744073709551616 := by decide
          omega
        case measure => simp [intOf]; omega
      · have hk' : (h : Int) < M := by omega
        obtain ⟨s, hs⟩ : ∃ s : Nat, h + s = m := ⟨m - h, by omega⟩
        have hS : M - (h : Int) = (s : Int) := by omega
        have hs0 : (s : Int) < 64 := by omega
        have hpart := u64_mask b[q].toNat h (by omega) (by omega)
        obtain ⟨p, hp⟩ : ∃ p, p = b[q].toNat % 2 ^ h := ⟨_, rfl⟩
        rw [← hp] at hpart
        have hHp := Lib.hid hp
        have hHs := Lib.hid hs
        clear hM hA hp hs
        go_wp2_with fail
        go_quiet (fail)
        clear hpart
        go_wp2
        go_roundw
        case rel =>
          have hround := get_round b at0 d h q r 0 hqb hHq.out.1 (by have := hHh.out; omega)
          have hd2 : d + h ≤ 64 := by have := hHd.out; have := hHs.out; omega
          have hlt64 := nat_lt (((unpack b.data.toList).drop at0).take (d + h))
          have hlen : (((unpack b.data.toList).drop at0).take (d + h)).length ≤ 64 := Nat.le_trans (List.length_take_le _ _) hd2
          have hpw := pow_le_pow2 hlen
          refine ⟨d + h, s, A + h, s, by have := hHd.out; have := hHs.out; omega, ?_, rfl, by have := hHa.out; omega, rfl, rfl, below_drewN hbl _, hc⟩
          rw [hround, hHn.out]
          have e1 : p = b[q].toNat / 2 ^ 0 % 2 ^ h := by rw [hHp.out]; simp
          rw [← e1]
          congr 1
          refine u64_join n0 h p ?_ (by omega) (by rw [e1]; exact Nat.mod_lt _ (Nat.pow_pos (by decide)))
          rw [hround, hHn.out] at hlt64
          have : (2 : Nat) ^ 64 = 18446744073709551616 := by decide
          omega
        case measure => simp [intOf]; have := hHm.out; have := hHs.out; omega
    · have hm0 : m = 0 := by omega
      subst hm0
      have hM0 : M ≤ 0 := by omega
      have hd' : d = width := by omega
      subst hd'
      clear hM hA hd
      go_wp2_with fail
      go_ret
      exact ⟨rfl, hbl⟩
end Go.Proofs.YtihohljhjdmamaaGreat
