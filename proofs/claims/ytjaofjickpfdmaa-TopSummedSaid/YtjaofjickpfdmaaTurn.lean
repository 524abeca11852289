/- What bits' Turn does, at whole bytes. -/
import Derived.Test.YtjaofjickpfdmaaBits5
import Derived.Lib.ConvBytes
import Derived.BigRegion
namespace Go.Proofs.Ytjaofjickpfdmaa
open Go.RowKit BitsPlain
set_option linter.unusedVariables false

theorem xor_ne (a p : Nat) (hp : 0 < p) : a ^^^ p ≠ a := by
  intro h
  have h1 : a ^^^ (a ^^^ p) = p := by rw [← Nat.xor_assoc, Nat.xor_self, Nat.zero_xor]
  rw [h, Nat.xor_self] at h1
  omega

def TurnPost (b : ByteArray) (i : Int) (e : Ending) : Prop :=
  ((i < 0 ∨ ((8 * b.size : Nat) : Int) ≤ i) ∧ e = .returned (.tuple #[.agg #[.string b, .int .i64 ((8 * b.size : Nat) : Int)], .int .i64 1])) ∨
  (0 ≤ i ∧ i < ((8 * b.size : Nat) : Int) ∧ ∃ (q : Nat) (d : UInt8) (h : q < b.data.toList.length), b.data.toList[q] ≠ d ∧ e = .returned (.tuple #[.agg #[.string ⟨(b.data.toList.set q d).toArray⟩, .int .i64 ((8 * b.size : Nat) : Int)], .int .i64 0]))

set_option maxRecDepth 100000 in
set_option maxHeartbeats 2000000 in
theorem turn_any (b : ByteArray) (i : Int) (w : World) (hb : 8 * b.size ≤ 1048576) :
    Calls Try.prog 9 #[.agg #[.string b, .int .i64 ((8 * b.size : Nat) : Int)], .int .i64 i] w fun e w' => TurnPost b i e ∧ Below w.heap.size w w' := by
  have HS : Hid ((Try.prog.info? 25).map (·.size) = some 2) := Lib.hid (by kernel_rfl)
  have hm := IsBits.bytes b.data.toList
  have hml : (unpack b.data.toList).length = 8 * b.size := by rw [length_unpack, size_data]
  have Hchk := Lib.hid (fun w => check_good b _ w hm (by omega))
  rw [hml] at Hchk
  clear hm hml
  obtain ⟨n, hn⟩ : ∃ n : Nat, n = 8 * b.size := ⟨_, rfl⟩
  unfold TurnPost
  rw [← hn] at Hchk hb ⊢
  have Hn := Lib.hid hn
  clear hn
  go_enter Try.func9, Try.ntmps9
  go_wp2_with fail
  have hgw : w.grownBy ((w.alloc (.cells #[.string b, .int .i64 (n : Nat)] 25)).alloc (.cells #[.string ⟨#[]⟩, .int .i64 0] 25)) none := grown_trans (World.grownBy_alloc _ _ _) (World.grownBy_alloc _ _ _)
  have hf := two_blocks w (.cells #[.string b, .int .i64 (n : Nat)] 25) (.cells #[.string ⟨#[]⟩, .int .i64 0] 25)
  generalize ((w.alloc (.cells #[.string b, .int .i64 (n : Nat)] 25)).alloc (.cells #[.string ⟨#[]⟩, .int .i64 0] 25)) = W at hgw hf ⊢
  have HF := Lib.hid (fun W' (hg : W.grownBy W' none) => And.intro (cells2 hf.1 hg (by simp)) (cells2 hf.2.1 hg (by simp)))
  have Hgw := Lib.hid hgw
  clear hf hgw
  refine (Hchk.out _).mono ?_
  rintro e w1 ⟨rfl, hb1⟩
  obtain ⟨⟨a1, a2, a3, a4, a5⟩, ⟨b1, b2, b3, b4, b5⟩⟩ := HF.out w1 (grown_of_below hb1)
  have Hg1 := Lib.hid (grown_of_below hb1)
  clear hb1
  by_cases hi : 0 ≤ i ∧ i < (n : Int)
  · obtain ⟨hi0, hi1⟩ := hi
    obtain ⟨q, hq⟩ : ∃ q : Nat, (q : Int) = i / 8 := ⟨(i / 8).toNat, by omega⟩
    obtain ⟨r, hr⟩ : ∃ r : Nat, (r : Int) = i % 8 := ⟨(i % 8).toNat, by omega⟩
    have hr8 : r < 8 := by omega
    obtain ⟨k, hk⟩ : ∃ k : Nat, k + r = 7 := ⟨7 - r, by omega⟩
    have hk1 : 7 - (r : Int) = (k : Int) := by omega
    have hk2 : IntKind.i64.wrap (k : Int) = (k : Int) := IntWalk.i64_in _ (by omega)
    have hqb : q < b.size := by have := Hn.out; omega
    have hcv := Lib.run_convert_string_bytes (P := Try.prog) w1 9 22 5 b (u := .string) Try.underlying9 Try.underlying22 Try.underlying5
    have hq' := hq.symm
    have hr' := hr.symm
    clear hq hr
    obtain ⟨g, hg⟩ : ∃ g, g = w1.heap.size := ⟨_, rfl⟩
    have hw2 : w1.grownBy (Lib.bytesWorld w1 5 b) none := ⟨rfl, rfl, rfl, by rw [Lib.bytesWorld_size]; omega, fun j hj _ => Lib.bytesWorld_at_old w1 _ b j hj⟩
    have hrow := Lib.bytesWorld_at_new w1 5 b
    have hcell : ∀ j (hj : j < b.size), (Lib.bytesWorld w1 5 b).cell? ⟨w1.heap.size, j, none⟩ = some (.int .u8 (b[j].toNat : Nat)) := by
      intro j hj
      rw [Lib.bytesWorld_cell w1 5 b j hj]
      have h1 := data_at b j hj
      rw [List.getD_eq_getElem?_getD, h1]; rfl
    have hbc : b.size ≤ (Lib.bytesCells w1 5 b).size := by unfold Lib.bytesCells; simp
    generalize hbw : Lib.bytesWorld w1 5 b = w2 at hcv hw2 hrow hcell ⊢
    generalize hgc : grownCap w1 b.size 0 5 = cp at hcv ⊢
    generalize Lib.bytesCells w1 5 b = BC at hrow hbc
    rw [← hg] at hcv hrow hcell
    clear hgc
    obtain ⟨⟨p1, p2, p3, p4, p5⟩, ⟨r1, r2, r3, r4, r5⟩⟩ := HF.out w2 (grown_trans Hg1.out hw2)
    have hgn : w.heap.size + 1 < g := by rw [hg]; exact (Array.getElem?_eq_some_iff.1 b1).1
    have hc0 := hcell q hqb
    have hfz : w2.frozen? ⟨g, q, none⟩ = false := by
      simp only [World.frozen?, hrow]
      simp
      omega
    have Hw2 := Lib.hid hw2
    have Hrow := Lib.hid hrow
    have Hcell := Lib.hid hcell
    have Hgn := Lib.hid hgn
    have Hg := Lib.hid hg
    have hp : 2 ^ k < 256 := Nat.lt_of_le_of_lt (pow_le_pow2 (show k ≤ 7 by omega)) (by decide)
    have hp0 : 0 < 2 ^ k := Nat.pow_pos (by decide)
    have hbq := b[q].toNat_lt
    have hx : bits .xor .u8 (b[q].toNat : Int) ((2 ^ k : Nat) : Int) = ((b[q].toNat ^^^ 2 ^ k : Nat) : Int) := u8_xor_nat _ _ hbq hp
    have hcx : b[q].toNat ^^^ 2 ^ k < 256 := Nat.xor_lt_two_pow (n := 8) hbq hp
    have hne : b[q].toNat ^^^ 2 ^ k ≠ b[q].toNat := xor_ne _ _ hp0
    have hsh : IntKind.u8.wrap ((2 : Int) ^ k) = ((2 ^ k : Nat) : Int) := by rw [cast_pow, IntKind.wrap_u8]; omega
    obtain ⟨c, hc⟩ : ∃ c, c = b[q].toNat ^^^ 2 ^ k := ⟨_, rfl⟩
    rw [← hc] at hx hcx hne
    obtain ⟨pk, hpk⟩ : ∃ pk : Nat, pk = 2 ^ k := ⟨_, rfl⟩
    rw [← hpk] at hx hsh
    clear hc hpk hp hp0 hbq hw2 hrow hcell hgn hk
    have Hne := Lib.hid hne
    clear hne
    clear hg hbw
    simp only []
    go_wp2_with fail
    have Hcx := Lib.hid hcx
    clear hcx
    go_region
    have hg23 : w2.grownBy (w2.setCell ⟨g, q, none⟩ (.int .u8 (c : Nat))).drew (some g) := grown_trans (grown_setCell w2 ⟨g, q, none⟩ _) (grown_drew _ _)
    have hq2 : q < b.data.toList.length := by rw [size_data]; exact hqb
    have hcv2 := run_convert_bytes_back (P := Try.prog) (w2.setCell ⟨g, q, none⟩ (.int .u8 (c : Nat))).drew 22 9 5 ⟨g, 0, none⟩ cp (b.data.toList.set q (UInt8.ofNat c)) Try.underlying22 Try.underlying5 Try.underlying9 (fun j hj => by
      rw [List.length_set, size_data] at hj
      rw [add_plain, Nat.zero_add]
      show (w2.setCell ⟨g, q, none⟩ (.int .u8 (c : Nat))).cell? _ = _
      by_cases hjq : j = q
      · subst hjq
        rw [World.cell?_setCell_same _ _ _ hc0, List.getElem_set_self, UInt8.toNat_ofNat', Nat.mod_eq_of_lt Hcx.out]
      · rw [World.cell?_setCell_other _ _ _ _ (by intro e; injection e with _ e; exact hjq e.symm), Hcell.out j hj, List.getElem_set_ne (fun e => hjq e.symm)]
        have h1 := data_at b j hj
        rw [List.getElem?_eq_some_iff] at h1
        obtain ⟨_, h1⟩ := h1
        rw [h1])
    rw [List.length_set, size_data] at hcv2
    obtain ⟨p1', p2', p3', p4', p5'⟩ := cells2 p1 hg23 (by have := Hgn.out; simp; omega)
    obtain ⟨r1', r2', r3', r4', r5'⟩ := cells2 r1 hg23 (by have := Hgn.out; simp; omega)
    have hg3 := Nat.le_trans Hg1.out.size Hw2.out.size
    have hbl3 : Below w.heap.size w (w2.setCell ⟨g, q, none⟩ (.int .u8 (c : Nat))).drew := by
      have h1 := grown_trans Hgw.out (grown_trans Hg1.out Hw2.out)
      exact (below_none h1 (Nat.le_refl _)).trans (below_grown hg23 (by have := Hgn.out; omega) h1.size)
    have Hbl3 := Lib.hid hbl3
    generalize (w2.setCell ⟨g, q, none⟩ (.int .u8 (c : Nat))).drew = w3 at hcv2 p1' p2' p3' p4' p5' r1' r2' r3' r4' r5' Hbl3 ⊢
    clear hg23 p1 p2 p3 p4 p5 r1 r2 r3 r4 r5 hc0 hfz hx hsh hcv hg3 hbl3 a1 a2 a3 a4 a5 b1 b2 b3 b4 b5
    go_wp2_with fail
    have hts := two_cells w3 (w.heap.size + 1) _ _ (.string ⟨(b.data.toList.set q (UInt8.ofNat c)).toArray⟩) (.int .i64 (n : Nat)) _ r1'
    have hbl4 := Hbl3.out.trans (below_grown hts.2 (show w.heap.size ≤ w.heap.size + 1 by omega) Hbl3.out.size)
    have hrow := hts.1
    refine bodyPost_ret (results_row_tmp (fn := Try.f9) (p := 4) (q := 5) (ty := 25) rfl _ _ (w.heap.size + 1) 25 _ _ _ rfl hrow Try.underlying25 rfl HS.out) rfl ?_
    refine ⟨.inr ⟨hi0, hi1, q, UInt8.ofNat c, hq2, ?_, rfl⟩, hbl4⟩
    intro e
    have h1 := data_at b q hqb
    rw [List.getElem?_eq_some_iff] at h1
    obtain ⟨_, h1⟩ := h1
    rw [h1] at e
    have h2 := congrArg UInt8.toNat e
    rw [UInt8.toNat_ofNat', Nat.mod_eq_of_lt Hcx.out] at h2
    exact Hne.out h2.symm
  · have hi'' : i < 0 ∨ (n : Int) ≤ i := by omega
    simp only []
    have hg1w := grown_trans Hgw.out Hg1.out
    have hts := two_cells w1 (w.heap.size + 1) _ _ (.string b) (.int .i64 (n : Nat)) _ b1
    have Hbl4 := Lib.hid ((below_none hg1w (Nat.le_refl _)).trans (below_grown hts.2 (show w.heap.size ≤ w.heap.size + 1 by omega) hg1w.size))
    have Hrow := Lib.hid hts.1
    clear hts hg1w
    by_cases hi0 : i < 0
    · go_wp2_with fail
      refine bodyPost_ret (results_row_tmp (fn := Try.f9) (p := 4) (q := 5) (ty := 25) rfl _ _ (w.heap.size + 1) 25 _ _ _ rfl Hrow.out Try.underlying25 rfl HS.out) rfl ?_
      first | exact ⟨.inl ⟨by omega, rfl⟩, Hbl4.out⟩ | exact ⟨.inl rfl, Hbl4.out⟩
    · have hi2 : (n : Int) ≤ i := by omega
      go_wp2_with fail
      refine bodyPost_ret (results_row_tmp (fn := Try.f9) (p := 4) (q := 5) (ty := 25) rfl _ _ (w.heap.size + 1) 25 _ _ _ rfl Hrow.out Try.underlying25 rfl HS.out) rfl ?_
      first | exact ⟨.inl ⟨by omega, rfl⟩, Hbl4.out⟩ | exact ⟨.inl rfl, Hbl4.out⟩
end Go.Proofs.Ytjaofjickpfdmaa
