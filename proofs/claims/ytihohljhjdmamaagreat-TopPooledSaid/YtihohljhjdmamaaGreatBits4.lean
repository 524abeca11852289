/- What bits' Check, wide and Copy do, at right bits. -/
import Derived.Test.YtihohljhjdmamaaGreatBits3
namespace Go.Proofs.YtihohljhjdmamaaGreat
open Go.RowKit BitsPlain
set_option linter.unusedVariables false

set_option maxRecDepth 100000 in
set_option maxHeartbeats 1000000 in
theorem check_good (b : ByteArray) (m : List Bool) (w : World) (hm : IsBits b.data.toList m) (hl : m.length ≤ 1048576) :
    Calls Tryz.prog 29 #[.agg #[.string b, .int .i64 (m.length : Nat)]] w fun e w' => e = .returned (.int .i64 0) ∧ Below w.heap.size w w' := by
  have hlen := hm.length
  rw [size_data] at hlen
  have hlast := hm.last
  obtain ⟨n, hn⟩ : ∃ n : Nat, n = m.length := ⟨_, rfl⟩
  rw [← hn] at hl hlen hlast ⊢
  clear hm hn
  obtain ⟨r, hr⟩ : ∃ r : Nat, r = n % 8 := ⟨_, rfl⟩
  have hr1 : (n : Int) % 8 = (r : Int) := by omega
  have hq : ((n : Int) + 8 - 1) / 8 = (b.size : Int) := by omega
  have hr8 : r < 8 := by omega
  have Hlen := Lib.hid hlen
  have Hr := Lib.hid hr
  by_cases h0 : 0 < r
  · have h0' : 0 < (r : Int) := by omega
    rw [← hr] at hlast
    obtain ⟨hb, hl2⟩ := hlast h0
    have hi : b.size - 1 < b.size := by rw [size_data] at hb; exact hb
    have hb0 : 0 < b.size := by omega
    have hsz : b.size ≤ 131072 := by omega
    have hw : IntKind.u8.wrap ((b[b.size - 1].toNat : Int) * (2 : Int) ^ r) = 0 := by
      have e : b.data.toList[b.data.toList.length - 1]'hb = b[b.size - 1] := by
        have h1 := data_at b (b.size - 1) hi
        rw [List.getElem?_eq_some_iff] at h1
        obtain ⟨_, h1⟩ := h1
        rw [← h1]
        congr 1
      rw [e] at hl2
      rw [IntKind.wrap_u8, cast_pow]
      have : ((b[b.size - 1].toNat : Int) * ((2 ^ r : Nat) : Int)) = ((b[b.size - 1].toNat * 2 ^ r : Nat) : Int) := by simp
      rw [this]
      omega
    obtain ⟨k, hk⟩ : ∃ k, k + 1 = b.size := ⟨b.size - 1, by omega⟩
    have hk1 : (b.size : Int) - 1 = (k : Int) := by omega
    have hk2 : k < b.size := by omega
    have hw' : IntKind.u8.wrap ((b[k].toNat : Int) * (2 : Int) ^ r) = 0 := by
      rw [← hw]
      have : b.size - 1 = k := by omega
      simp only [this]
    clear hw hl2 hlast hb hi hr hlen hk
    go_enter Tryz.func29, Tryz.ntmps29
    go_wp2_with fail
    go_ret
    exact ⟨rfl, (Below.refl _ _).alloc (Nat.le_refl _) _⟩
  · have h0' : r = 0 := by omega
    have hr2 : (n : Int) % 8 = 0 := by omega
    clear hr hr1 hlast hlen h0 h0' hr8
    go_enter Tryz.func29, Tryz.ntmps29
    go_wp2_with fail
    go_ret
    exact ⟨rfl, (Below.refl _ _).alloc (Nat.le_refl _) _⟩

set_option maxRecDepth 100000 in
theorem wide_any (n : Nat) (w : World) (hn : n ≤ 64) :
    Calls Tryz.prog 30 #[.int .i64 n] w fun e w' => e = .returned (.bool true) ∧ w' = w := by
  have h1 : 0 ≤ (n : Int) := by omega
  have h2 : (n : Int) ≤ 64 := by omega
  go_enter Tryz.func30, Tryz.ntmps30
  go_wp2_with fail
  go_ret
  exact ⟨rfl, rfl⟩
theorem grown_of_below {w w' : World} (h : Below w.heap.size w w') : w.grownBy w' none := ⟨h.os, h.tape, h.output, h.size, fun k hk _ => h.block k hk⟩
theorem IsWriter.grown {w w' : World} {B b : Nat} {l : List Bool} (h : IsWriter w B b l) (hg : w.grownBy w' none) : IsWriter w' B b l := by
  obtain ⟨o, r, v, e, h⟩ := h
  exact ⟨o, r, v, e, h.grown hg⟩
theorem others_none {e : TypeId} {b : Option Nat} {w w' : World} (hg : w.grownBy w' none) : Lib.OthersKept e b w w' := by
  intro k o hk _ _
  exact (hg.block k (Array.getElem?_eq_some_iff.1 hk).1 (by simp)).trans hk
theorem below_none {B : Nat} {w w' : World} (hg : w.grownBy w' none) (hB : B ≤ w.heap.size) : Below B w w' := (Below.refl B w).grown hg hB (fun k e => by cases e)
theorem kept_row {e t : TypeId} {b k : Nat} {w w' : World} {cs : Array Value} {fz : Nat × Nat} (h : Lib.OthersKept e (some b) w w') (hk : w.heap[k]? = some (.cells cs t fz)) (hkb : k ≠ b) (ht : t ≠ e) : w'.heap[k]? = some (.cells cs t fz) :=
  h k _ hk (fun e1 => hkb (Option.some.inj e1)) (fun _ _ e1 => by injection e1 with _ e2; exact ht e2)

theorem copy_round (x : List UInt8) (m : List Bool) (hm : IsBits x m) (i k : Nat) (hi : 8 * i < m.length) (hk : k = min 8 (m.length - 8 * i)) :
    bitsOf (nat (((unpack x).drop (8 * i)).take k)) k = (m.drop (8 * i)).take k ∧ m.take (8 * i) ++ (m.drop (8 * i)).take k = m.take (8 * (i + 1)) := by
  rw [hm.slice (8 * i) k (by omega)]
  have hl : ((m.drop (8 * i)).take k).length = k := by rw [List.length_take, List.length_drop]; omega
  constructor
  · have := bitsOf_nat ((m.drop (8 * i)).take k)
    rwa [hl] at this
  · rw [← List.take_add]
    by_cases h : 8 ≤ m.length - 8 * i
    · rw [show 8 * i + k = 8 * (i + 1) by omega]
    · rw [List.take_of_length_le (show m.length ≤ 8 * i + k by omega), List.take_of_length_le (by omega)]

set_option maxRecDepth 100000 in
set_option maxHeartbeats 2000000 in
theorem copy_any (B b : Nat) (l m : List Bool) (x : ByteArray) (w : World) (hl : IsWriter w B b l) (hm : IsBits x.data.toList m) (hlen : l.length + m.length ≤ 1073741824) (hBw : B ≤ w.heap.size) :
    Calls Tryz.prog 32 #[.pointer (some ⟨b, 0, none⟩), .agg #[.string x, .int .i64 (m.length : Nat)]] w fun e w' => e = .returned (.tuple #[]) ∧ IsWriter w' B b (l ++ m) ∧ Below B w w' ∧ Lib.OthersKept 5 (some b) w w' := by
  obtain ⟨n, hn⟩ : ∃ n : Nat, n = m.length := ⟨_, rfl⟩
  have hsz := hm.length
  rw [size_data] at hsz
  rw [← hn] at hlen hsz ⊢
  have hbs : b < w.heap.size := by
    obtain ⟨o, r, v, _, h⟩ := hl
    exact (Array.getElem?_eq_some_iff.1 h.blk).1
  have Hn := Lib.hid hn
  have Hm := Lib.hid hm
  have Hsz := Lib.hid hsz
  clear hn hm hsz
  go_enter Tryz.func32, Tryz.ntmps32
  go_wp2
  go_loopw [5] (fun av wr => ∃ i A : Nat, av = .int .i64 (A : Nat) ∧ A = 8 * i ∧ A ≤ n + 7 ∧ Hid (IsWriter wr B b (l ++ m.take (8 * i))) ∧ wr.heap[w.heap.size]? = some (.cells #[.string x, .int .i64 (n : Nat)] 46 (0, 0)) ∧ wr.heap[w.heap.size + 1]? = some (.cells #[.string x, .int .i64 (n : Nat)] 114 (0, 0)) ∧ Hid (Below B w wr) ∧ Hid (Lib.OthersKept 5 (some b) w wr)) (fun av _ => n + 8 - (intOf av).toNat)
  case atStart =>
    have hg : w.grownBy ((w.alloc (.cells #[.string x, .int .i64 (n : Nat)] 46)).alloc (.cells #[.string x, .int .i64 (n : Nat)] 114)) none := grown_trans (World.grownBy_alloc _ _ _) (World.grownBy_alloc _ _ _)
    refine ⟨0, 0, rfl, rfl, by omega, ?_, ?_, ?_, below_none hg hBw, others_none hg⟩
    · show IsWriter _ _ _ _
      rw [Nat.mul_zero, List.take_zero, List.append_nil]
      exact hl.grown hg
    · have h1 := heap_alloc_new w (.cells #[.string x, .int .i64 (n : Nat)] 46)
      exact ((World.grownBy_alloc _ _ none).block _ (Array.getElem?_eq_some_iff.1 h1).1 (by simp)).trans h1
    · have := heap_alloc_new (w.alloc (.cells #[.string x, .int .i64 (n : Nat)] 46)) (.cells #[.string x, .int .i64 (n : Nat)] 114)
      rwa [show (w.alloc (.cells #[.string x, .int .i64 (n : Nat)] 46)).heap.size = w.heap.size + 1 from Array.size_push _] at this
  case round =>
    obtain ⟨i, A, rfl, hA, hAn, hwr, hk1, hk2, hbl, hok⟩ := hrel
    have c0 : wr.cell? ⟨w.heap.size, 1, none⟩ = some (.int .i64 (n : Nat)) := by rw [cell_of_row _ _ _ _ _ _ hk1]; rfl
    have c1 : wr.cell? ⟨w.heap.size + 1, 0, none⟩ = some (.string x) := by rw [cell_of_row _ _ _ _ _ _ hk2]; rfl
    have c2 : wr.cell? ⟨w.heap.size + 1, 1, none⟩ = some (.int .i64 (n : Nat)) := by rw [cell_of_row _ _ _ _ _ _ hk2]; rfl
    have HA := Lib.hid hA
    by_cases hlt : A < n
    · obtain ⟨k, hk⟩ : ∃ k, k = min 8 (n - A) := ⟨_, rfl⟩
      have hk8 : k ≤ 8 := by omega
      have hcr := copy_round x.data.toList m Hm.out i k (by have := Hn.out; omega) (by rw [hk, hA, Hn.out])
      obtain ⟨v, hv⟩ : ∃ v, v = nat (((unpack x.data.toList).drop (8 * i)).take k) := ⟨_, rfl⟩
      rw [← hv] at hcr
      have key : ∀ K : Int, K = (k : Int) → Hid (Calls Tryz.prog 55 #[.agg #[.string x, .int .i64 (n : Nat)], .int .i64 (A : Nat), .int .i64 K] wr fun e w' => e = .returned (.int .u64 (v : Nat)) ∧ Hid (wr.grownBy w' none)) ∧
          Hid (∀ w1, wr.grownBy w1 none → Calls Tryz.prog 33 #[.pointer (some ⟨b, 0, none⟩), .int .u64 (v : Nat), .int .i64 K] w1 fun e w' => e = .returned (.tuple #[]) ∧ Hid (IsWriter w' B b (l ++ m.take (8 * (i + 1))) ∧ Below B w w' ∧ Lib.OthersKept 5 (some b) w w') ∧ w'.heap[w.heap.size]? = some (.cells #[.string x, .int .i64 (n : Nat)] 46 (0, 0)) ∧ w'.heap[w.heap.size + 1]? = some (.cells #[.string x, .int .i64 (n : Nat)] 114 (0, 0))) := by
        rintro K rfl
        constructor
        · refine (get_any x n A k wr (by omega) (by have := Hsz.out; omega) (by have := Hsz.out; omega)).mono ?_
          rintro e w' ⟨h1, h2⟩
          refine ⟨?_, grown_of_below h2⟩
          rw [h1, hv, hA]
        · intro w1 hg
          have hv64 : v < 18446744073709551616 := by
            rw [hv]
            have h1 := nat_lt (((unpack x.data.toList).drop (8 * i)).take k)
            have h2 : (((unpack x.data.toList).drop (8 * i)).take k).length ≤ 8 := Nat.le_trans (List.length_take_le _ _) hk8
            have h3 := pow_le_pow2 h2
            have : (2 : Nat) ^ 8 = 256 := by decide
            omega
          have hBr := Nat.le_trans hBw hbl.out.size
          refine (add_any B b (l ++ m.take (8 * i)) v k w1 (hwr.out.grown hg) hv64 (by omega) ?_ (Nat.le_trans hBr hg.size)).mono ?_
          · rw [List.length_append, List.length_take]
            have := Hn.out
            omega
          · rintro e w' ⟨h1, h2, h3, h4⟩
            rw [List.append_assoc, hcr.1, hcr.2] at h2
            have h5 : Lib.OthersKept 5 (some b) wr w' := (others_none hg).trans h4
            exact ⟨h1, ⟨h2, hbl.out.trans ((below_none hg hBr).trans h3), hok.out.trans h5⟩, kept_row h5 hk1 (by omega) (by decide), kept_row h5 hk2 (by omega) (by decide)⟩
      by_cases h8 : 8 ≤ (n : Int) - (A : Int)
      · obtain ⟨HG, HAd⟩ := key 8 (by omega)
        clear key hA hcr hv hk
        go_wp2_with (first
          | (go_at_call 55; refine HG.out.mono ?_; rintro e w1 ⟨rfl, hg1⟩)
          | (go_at_call 33; refine (HAd.out _ hg1.out).mono ?_; rintro e w2 ⟨rfl, h2, h3, h4⟩))
        go_roundw
        case rel => exact ⟨i + 1, A + 8, by go_num, by have := HA.out; omega, by omega, h2.out.1, h3, h4, h2.out.2.1, h2.out.2.2⟩
        case measure => simp [intOf]; omega
      · obtain ⟨HG, HAd⟩ := key ((n : Int) - (A : Int)) (by omega)
        clear key hA hcr hv hk
        go_wp2_with (first
          | (go_at_call 55; refine HG.out.mono ?_; rintro e w1 ⟨rfl, hg1⟩)
          | (go_at_call 33; refine (HAd.out _ hg1.out).mono ?_; rintro e w2 ⟨rfl, h2, h3, h4⟩))
        go_roundw
        case rel => exact ⟨i + 1, A + 8, by go_num, by have := HA.out; omega, by omega, h2.out.1, h3, h4, h2.out.2.1, h2.out.2.2⟩
        case measure => simp [intOf]; omega
    · clear hA
      go_wp2_with fail
      go_end0
      refine ⟨rfl, ?_, hbl.out, hok.out⟩
      have h1 := hwr.out
      rwa [List.take_of_length_le (by have := Hn.out; have := HA.out; omega)] at h1
end Go.Proofs.YtihohljhjdmamaaGreat
