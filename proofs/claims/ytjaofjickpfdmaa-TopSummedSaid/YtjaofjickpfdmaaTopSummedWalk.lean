/- TopSummed's walk: true, whatever comes in. -/
import Derived.Test.YtjaofjickpfdmaaBegins
import Derived.Test.YtjaofjickpfdmaaTurn
import Derived.Test.YtjaofjickpfdmaaCrc2
namespace Go.Proofs.Ytjaofjickpfdmaa
open Go.RowKit BitsPlain CrcPlain
set_option linter.unusedVariables false

def IsRow (k : IntKind) (w : World) (a : Option Addr) (len cap : Nat) (zs : List Int) : Prop :=
  (a = none ∧ len = 0 ∧ cap = 0 ∧ zs = []) ∨
  ∃ x, a = some x ∧ len ≤ cap ∧ cap ≤ maxLen ∧ zs.length = cap ∧ (∀ i, i < zs.length → w.cell? (x.add i) = some (.int k (zs.getD i 0))) ∧ ∀ n ∈ zs, (Lit.int k n).wf = true

theorem grown_refl (w : World) (q : Option Nat) : w.grownBy w q := ⟨rfl, rfl, rfl, Nat.le_refl _, fun _ _ _ => rfl⟩
theorem bytes_of_row {w : World} {a : Option Addr} {len cap : Nat} {zs : List Int} (h : IsRow .u8 w a len cap zs) :
    ∃ L : List UInt8, L.length = len ∧ len ≤ cap ∧ ∀ i (hi : i < L.length), ∃ x, a = some x ∧ w.cell? (x.add i) = some (.int .u8 (L[i].toNat : Nat)) := by
  rcases h with ⟨_, rfl, rfl, _⟩ | ⟨x, ha, hl, _, hz, hc, hwf⟩
  · exact ⟨[], rfl, Nat.le_refl _, fun i hi => by simp at hi⟩
  · refine ⟨(zs.take len).map (fun n => UInt8.ofNat n.toNat), by simp; omega, hl, fun i hi => ⟨x, ha, ?_⟩⟩
    simp at hi
    rw [hc i (by omega)]
    have hi2 : i < zs.length := by omega
    have hm := hwf zs[i] (List.getElem_mem hi2)
    simp [Lit.wf, IntKind.min, IntKind.max, IntKind.signed, IntKind.bits] at hm
    simp [hi2]
    omega

theorem unpack_take_succ (L : List UInt8) (i : Nat) (hi : i < L.length) : unpack (L.take i) ++ bitsOf (L[i].toNat) 8 = unpack (L.take (i + 1)) := by
  rw [List.take_add_one, List.getElem?_eq_getElem hi]
  exact (unpack_snoc _ _).symm
theorem unpack_at (L : List UInt8) (i : Nat) (hi : i < L.length) : nat (((unpack L).drop (8 * i)).take 8) = L[i].toNat := by
  have h := unpack_slice L i 0 8 hi (by omega)
  rw [Nat.add_zero] at h
  rw [h, List.drop_zero, List.take_of_length_le (by rw [length_bitsOf]; omega), nat_bitsOf]
  have := L[i].toNat_lt
  omega
theorem whole_eq {B L : List UInt8} (h : IsBits B (unpack L)) : B = L := by
  unfold IsBits at h
  rw [length_unpack, show (8 - 8 * L.length % 8) % 8 = 0 by omega] at h
  simp at h
  exact unpack_inj h

set_option maxRecDepth 100000 in
set_option maxHeartbeats 4000000 in
theorem topSummed_walk (a0 : Option Addr) (len0 cap0 : Nat) (z0 : List Int) (a1 : Int) (w : World) (w0 : IsRow .u8 w a0 len0 cap0 z0) (w1 : (Lit.int .i64 a1).wf = true) :
    Calls Try.prog 3 #[.slice a0 len0 cap0, .int .i64 a1] w fun e w' => e = .returned (.bool true) ∧ Below w.heap.size w w' := by
  obtain ⟨L, rfl, hcap, hcell⟩ := bytes_of_row w0
  clear w0 w1
  have HB := Lib.hid (fun w => begins_any w)
  obtain ⟨n, hn⟩ : ∃ n, n = L.length := ⟨_, rfl⟩
  rw [← hn] at hcap ⊢
  have Hn := Lib.hid hn
  have Hcell : Hid (∀ W' : World, Below w.heap.size w W' → ∀ i (hi : i < L.length), ∃ x, a0 = some x ∧ W'.cell? (x.add i) = some (.int .u8 (L[i].toNat : Nat))) := by
    intro W' hb i hi
    obtain ⟨x, h1, h2⟩ := hcell i hi
    exact ⟨x, h1, (grown_of_below hb).cell h2 (by simp)⟩
  clear hn hcell
  go_enter Try.func3, Try.ntmps3
  by_cases hbig : 2000 < n
  · go_wp2_with (first
      | (go_at_call 4; refine (HB.out _).mono ?_; rintro e w1 ⟨rfl, hb1⟩)
      | fail)
    go_ret
    exact ⟨rfl, hb1⟩
  · go_wp2_with (first
      | (go_at_call 4; refine (HB.out _).mono ?_; rintro e w1 ⟨rfl, hb1⟩; have Hb1 := Lib.hid hb1; clear hb1)
      | fail)
    have hP := heap_alloc_new w1 (.cells #[.string ⟨#[]⟩, .int .i64 0] 25)
    have hg1 := World.grownBy_alloc w1 (.cells #[.string ⟨#[]⟩, .int .i64 0] 25) none
    generalize hW2 : w1.alloc (.cells #[.string ⟨#[]⟩, .int .i64 0] 25) = w2 at hP hg1 ⊢
    obtain ⟨P, hPe⟩ : ∃ P, P = w1.heap.size := ⟨_, rfl⟩
    rw [← hPe] at hP ⊢
    have HPw : Hid (w.heap.size ≤ P) := by show _ ≤ _; rw [hPe]; exact Hb1.out.size
    have Hb2 : Hid (Below w.heap.size w w2) := Hb1.out.trans (below_none hg1 Hb1.out.size)
    clear hW2 hg1 hPe
    go_loopw [6, 30] (fun ev iv wr => ∃ i : Nat, ev = .int .i64 0 ∧ iv = .int .i64 (i : Nat) ∧ i ≤ n ∧ (∃ (B : List UInt8) (N : Nat), Hid (N = 8 * i) ∧ Hid (IsBits B (unpack (L.take i))) ∧ wr.heap[P]? = some (.cells #[.string ⟨B.toArray⟩, .int .i64 (N : Nat)] 25 (0, 0))) ∧ Hid (Below w.heap.size w wr)) (fun _ iv _ => n - (intOf iv).toNat)
    case atStart => exact ⟨0, rfl, rfl, Nat.zero_le _, ⟨[], 0, rfl, IsBits.nil, hP⟩, Hb2⟩
    case round =>
      clear hP Hb2
      obtain ⟨i, rfl, rfl, hi, ⟨B, N, hN, hB, hPr⟩, hbr⟩ := hrel
      obtain ⟨d1, d2, d3, d4, d5⟩ := cells2 hPr (grown_refl wr none) (by simp)
      by_cases hlt : i < n
      · have hiL : i < L.length := by have := Hn.out; omega
        obtain ⟨x, rfl, hc⟩ := Hcell.out wr hbr.out i hiL
        have hc8 := L[i].toNat_lt
        have hput : Hid (Calls Try.prog 5 #[.agg #[.string ⟨B.toArray⟩, .int .i64 (N : Nat)], .int .u64 (L[i].toNat : Nat), .int .i64 8] wr fun e w' => ∃ B' : List UInt8, Hid (IsBits B' (unpack (L.take (i + 1)))) ∧ e = .returned (.tuple #[.agg #[.string ⟨B'.toArray⟩, .int .i64 ((N : Int) + 8)], .int .i64 0]) ∧ Hid (wr.grownBy w' none)) := by
          have hl : (unpack (L.take i)).length = N := by rw [length_unpack, List.length_take, hN.out]; omega
          have h := put_good ⟨B.toArray⟩ (unpack (L.take i)) L[i].toNat 8 wr (by simpa using hB.out) (by decide) hc8 (by have := hN.out; omega)
          rw [hl, unpack_take_succ L i hiL] at h
          refine h.mono ?_
          rintro e w' ⟨B', h1, h2, h3⟩
          exact ⟨B', h1, h2, grown_of_below h3⟩
        have hwr : IntKind.u64.wrap (L[i].toNat : Int) = (L[i].toNat : Int) := wrap64u_in _ (by omega) (by omega)
        generalize L[i].toNat = c at hc hc8 hput hwr
        have Hcell2 := Hcell
        clear Hcell hiL
        go_wp2_with (first
          | (go_at_call 5; refine hput.out.mono ?_; rintro e w3 ⟨B', hB', rfl, hg3⟩; clear d1 d2 d3 d4 d5; obtain ⟨d1, d2, d3, d4, d5⟩ := cells2 hPr hg3.out (by simp))
          | fail)
        have hts := two_cells w3 P _ _ (.string ⟨B'.toArray⟩) (.int .i64 ((N : Int) + 8)) _ d1
        have hbl := (hbr.out.trans (below_none hg3.out hbr.out.size)).trans (below_grown hts.2 HPw.out (Nat.le_trans hbr.out.size hg3.out.size))
        refine ⟨⟨i + 1, rfl, by rw [Int.natCast_add]; rfl, by omega, ⟨B', N + 8, by have := hN.out; show _ = _; omega, hB', ?_⟩, hbl⟩, by simp [intOf]; omega⟩
        rw [Int.natCast_add]
        exact hts.1
      · have hin : i = n := by omega
        have hLt : L.take i = L := List.take_of_length_le (by have := Hn.out; omega)
        rw [hLt] at hB
        have hBL := whole_eq hB.out
        subst hBL
        have Hin := Lib.hid hin
        clear hin hLt hB
        have hBn : B.length = n := Hn.out.symm
        have hF4 : (B ++ tail (CrcPlain.sum B)).length = n + 4 := by rw [List.length_append, hBn]; rfl
        obtain ⟨F, hF⟩ : ∃ F : ByteArray, F = ⟨(B ++ tail (CrcPlain.sum B)).toArray⟩ := ⟨_, rfl⟩
        have hFl : F.data.toList = B ++ tail (CrcPlain.sum B) := by rw [hF]
        have hFs : F.size = n + 4 := by rw [← size_data, hFl, hF4]
        obtain ⟨S, hS⟩ : ∃ S : ByteArray, S = ⟨B.toArray⟩ := ⟨_, rfl⟩
        have hSl : S.data.toList = B := by rw [hS]
        have hSs : S.size = n := by rw [← size_data, hSl, hBn]
        rw [← hS] at hPr d1 d2
        have HF : Hid (∀ W : World, Calls Try.prog 6 #[.string S] W fun e w' => e = .returned (.tuple #[.string F, .int .i64 0]) ∧ Hid (W.grownBy w' none)) := fun W => by
          have h := frame_any S W (by omega)
          rw [hSl, ← hF] at h
          exact h.mono fun e w' h => ⟨h.1, grown_of_below h.2⟩
        have HO : Hid (∀ W : World, Calls Try.prog 7 #[.string F] W fun e w' => e = .returned (.tuple #[.string S, .int .i64 0]) ∧ Hid (W.grownBy w' none)) := fun W => by
          have h := open_any F n W hFs (by omega)
          have e1 : (B ++ tail (CrcPlain.sum B)).take n = B := by rw [← hBn, List.take_left]
          have e2 : (B ++ tail (CrcPlain.sum B)).drop n = tail (CrcPlain.sum B) := by rw [← hBn, List.drop_left]
          rw [hFl, e1, e2, if_pos rfl, ← hS] at h
          exact h.mono fun e w' h => ⟨h.1, grown_of_below h.2⟩
        have HT : Hid (∀ W : World, Calls Try.prog 9 #[.agg #[.string F, .int .i64 (8 * (F.size : Int))], .int .i64 a1] W fun e w' => Hid (TurnPost F a1 e) ∧ Hid (W.grownBy w' none)) := fun W => by
          have h := turn_any F a1 W (by omega)
          rw [Int.natCast_mul] at h
          exact h.mono fun e w' h => ⟨h.1, grown_of_below h.2⟩
        have HX : Hid (∀ (q : Nat) (d : UInt8) (h : q < F.data.toList.length) (W : World), F.data.toList[q] ≠ d → Calls Try.prog 7 #[.string ⟨(F.data.toList.set q d).toArray⟩] W fun e w' => e = .returned (.tuple #[.string ⟨#[]⟩, .int .i64 6]) ∧ Hid (W.grownBy w' none)) := fun q d hq W hne => by
          have h := open_any ⟨(F.data.toList.set q d).toArray⟩ n W (by show (F.data.toList.set q d).toArray.size = _; simp; exact hFs) (by omega)
          have hne2 : tail (CrcPlain.sum ((F.data.toList.set q d).take n)) ≠ (F.data.toList.set q d).drop n := by
            have h2 := @frame_set B q d (by rw [hFl] at hq; exact hq) (by
              have h3 : F.data.toList[q]? ≠ some d := by rw [List.getElem?_eq_getElem hq]; simpa using hne
              rw [hFl, List.getElem?_eq_getElem (by rw [hFl] at hq; exact hq)] at h3
              simpa using h3)
            rw [hBn] at h2
            rwa [hFl]
          rw [if_neg hne2] at h
          exact h.mono fun e w' h => ⟨h.1, grown_of_below h.2⟩
        have HG : Hid (∀ (i : Nat) (W : World) (hi : i < B.length), Calls Try.prog 8 #[.agg #[.string S, .int .i64 (8 * (n : Int))], .int .i64 (8 * (i : Int)), .int .i64 8] W fun e w' => e = .returned (.tuple #[.int .u64 (B[i].toNat : Nat), .int .i64 0]) ∧ Hid (W.grownBy w' none)) := fun i W hi => by
          have h := get_good S (unpack B) (8 * i) 8 W (by rw [hSl]; exact IsBits.bytes B) (by rw [length_unpack]; omega) (by decide) (by rw [length_unpack]; omega)
          rw [unpack_at B i hi, length_unpack, hBn, Int.natCast_mul, Int.natCast_mul] at h
          exact h.mono fun e w' h => ⟨h.1, grown_of_below h.2⟩
        have HFs := Lib.hid hFs
        have HFsz : (F.size : Int) ≤ 3000 := by omega
        clear hF hFl hFs hS hSl hF4 hBn HPw
        go_wp2_with (first
          | (go_at_call 6; refine (HF.out _).mono ?_; rintro e w3 ⟨rfl, hg3⟩)
          | (go_at_call 7; refine (HO.out _).mono ?_; rintro e w4 ⟨rfl, hg4⟩)
          | fail)
        have hQ := heap_alloc_new w4 (.cells #[.string S, .int .i64 (8 * (n : Int))] 25)
        have hg5 := grown_trans hg3.out (grown_trans hg4.out (World.grownBy_alloc w4 (.cells #[.string S, .int .i64 (8 * (n : Int))] 25) none))
        generalize hW5 : w4.alloc (.cells #[.string S, .int .i64 (8 * (n : Int))] 25) = w5 at hQ hg5 ⊢
        obtain ⟨R, hRe⟩ : ∃ R, R = w4.heap.size := ⟨_, rfl⟩
        rw [← hRe] at hQ ⊢
        have Hb5 : Hid (Below w.heap.size w w5) := hbr.out.trans (below_none hg5 hbr.out.size)
        clear hW5 hRe hg5 hg3 hg4 d1 d2 d3 d4 d5 hPr
        go_loopw [75] (fun jv wr => ∃ j : Nat, jv = .int .i64 (j : Nat) ∧ j ≤ n ∧ wr.heap[R]? = some (.cells #[.string S, .int .i64 (8 * (n : Int))] 25 (0, 0)) ∧ Hid (Below w.heap.size w wr)) (fun jv _ => n - (intOf jv).toNat)
        case atStart => exact ⟨0, rfl, Nat.zero_le _, hQ, Hb5⟩
        case round =>
          clear hQ Hb5
          obtain ⟨j, rfl, hj, hQr, hbj⟩ := hrel
          obtain ⟨d1, d2, d3, d4, d5⟩ := cells2 hQr (grown_refl _ none) (by simp)
          by_cases hlt2 : j < n
          · have hjL : j < B.length := by have := Hn.out; omega
            obtain ⟨x, rfl, hc⟩ := Hcell.out _ hbj.out j hjL
            have hc8 := B[j].toNat_lt
            have HGj := HG
            have HGj : Hid (∀ W : World, Calls Try.prog 8 #[.agg #[.string S, .int .i64 (8 * (n : Int))], .int .i64 (8 * (j : Int)), .int .i64 8] W fun e w' => e = .returned (.tuple #[.int .u64 (B[j].toNat : Nat), .int .i64 0]) ∧ Hid (W.grownBy w' none)) := fun W => HG.out j W hjL
            have hwr : IntKind.u64.wrap (B[j].toNat : Int) = (B[j].toNat : Int) := wrap64u_in _ (by omega) (by omega)
            generalize B[j].toNat = c at hc hc8 HGj hwr
            clear hjL
            go_wp2_with (first
              | (go_at_call 8; refine (HGj.out _).mono ?_; rintro e w6 ⟨rfl, hg6⟩)
              | fail)
            exact ⟨⟨j + 1, by rw [Int.natCast_add]; rfl, by omega, (cells2 hQr hg6.out (by simp)).1, hbj.out.trans (below_none hg6.out hbj.out.size)⟩, by simp [intOf]; omega⟩
          · go_wp2_with fail
            refine (HT.out _).mono ?_
            rintro e w6 ⟨ht, hg6⟩
            have Hb6 : Hid (Below w.heap.size w w6) := hbj.out.trans (below_none hg6.out hbj.out.size)
            clear d1 d2 d3 d4 d5 hQr hbj hg6
            rcases ht.out with ⟨hcond, rfl⟩ | ⟨h0, h1, q, d, hq, hne, rfl⟩
            · simp only []
              rw [Int.natCast_mul] at hcond
              have hb7 := Hb6.out.trans (below_none (World.grownBy_alloc w6 (.cells #[.string F, .int .i64 (8 * (F.size : Int))] 25) none) Hb6.out.size)
              have Hb7 := Lib.hid hb7
              clear hb7
              rcases Int.lt_or_le a1 0 with hc0 | hc0
              · clear hcond
                go_wp2_with fail
                go_ret
                exact ⟨rfl, Hb7.out⟩
              · have hc1 : 8 * (F.size : Int) ≤ a1 := by
                  rcases hcond with h | h
                  · omega
                  · exact h
                clear hcond
                go_wp2_with fail
                go_ret
                exact ⟨rfl, Hb7.out⟩
            · simp only []
              have HXq : Hid (∀ W : World, Calls Try.prog 7 #[.string ⟨(F.data.toList.set q d).toArray⟩] W fun e w' => e = .returned (.tuple #[.string ⟨#[]⟩, .int .i64 6]) ∧ Hid (W.grownBy w' none)) := fun W => HX.out q d hq W hne
              clear h0 h1 hq hne
              generalize (⟨(F.data.toList.set q d).toArray⟩ : ByteArray) = G at HXq ⊢
              go_wp2_with (first
                | (go_at_call 7; refine (HXq.out _).mono ?_; rintro e w7 ⟨rfl, hg7⟩)
                | fail)
              go_ret
              exact ⟨rfl, Hb6.out.trans (below_none (grown_trans (World.grownBy_alloc _ _ _) hg7.out) Hb6.out.size)⟩
end Go.Proofs.Ytjaofjickpfdmaa
