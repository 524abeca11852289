/- The walks of the four statements on zeros: each is true for every input. -/
import Derived.Test.YteeieeoieagclaaZeros12
namespace Go.Proofs.Yteeieeoieagclaa
open Go.RowKit ZerosPlain
set_option linter.unusedVariables false

def IsRow (k : IntKind) (w : World) (a : Option Addr) (len cap : Nat) (zs : List Int) : Prop :=
  (a = none ∧ len = 0 ∧ cap = 0 ∧ zs = []) ∨
  ∃ x, a = some x ∧ len ≤ cap ∧ cap ≤ maxLen ∧ zs.length = cap ∧ (∀ i, i < zs.length → w.cell? (x.add i) = some (.int k (zs.getD i 0))) ∧ ∀ n ∈ zs, (Lit.int k n).wf = true
theorem nums_of_row {w : World} {a : Option Addr} {len cap : Nat} {zs : List Int} (h : IsRow .u64 w a len cap zs) :
    ∃ L : List Nat, L.length = len ∧ len ≤ cap ∧ (∀ x ∈ L, x < 18446744073709551616) ∧ NumsAt w (.slice a len cap) L := by
  rcases h with ⟨rfl, rfl, rfl, _⟩ | ⟨x, rfl, hl, hm, hz, hc, hwf⟩
  · exact ⟨[], rfl, Nat.le_refl _, by simp, none, 0, rfl, Nat.zero_le _, fun i hi => by simp at hi⟩
  · have hb : ∀ n ∈ zs, 0 ≤ n ∧ n < 18446744073709551616 := fun n hn => by
      have hm := hwf n hn
      simp [Lit.wf, IntKind.min, IntKind.max, IntKind.signed, IntKind.bits] at hm
      omega
    refine ⟨(zs.take len).map Int.toNat, by simp; omega, hl, ?_, some x, cap, by simp; omega, by simp; omega, fun i hi => ⟨x, rfl, ?_⟩⟩
    · intro y hy
      obtain ⟨n, hn, rfl⟩ := List.mem_map.1 hy
      have := hb n (List.mem_of_mem_take hn)
      omega
    · simp at hi
      have hi2 : i < zs.length := by omega
      rw [hc i hi2]
      have := hb zs[i] (List.getElem_mem hi2)
      simp [hi2]
      omega
theorem NumsAt.take {w : World} {a : Option Addr} {len cap : Nat} {xs : List Nat} (h : NumsAt w (.slice a len cap) xs) (n : Nat) (hn : n ≤ xs.length) (c : Nat) : NumsAt w (.slice a n c) (xs.take n) := by
  obtain ⟨a', cp, h1, h2, h3⟩ := h
  injection h1 with h1
  subst h1
  have hl : (xs.take n).length = n := by rw [List.length_take]; omega
  refine ⟨a, c, by rw [hl], by omega, fun i hi => ?_⟩
  obtain ⟨x, h4, h5⟩ := h3 i (by omega)
  refine ⟨x, h4, ?_⟩
  rw [h5]
  simp

set_option maxRecDepth 100000 in
set_option maxHeartbeats 4000000 in
theorem zerosDigits_walk (n : Int) (a1 : Option Addr) (len1 cap1 : Nat) (z1 : List Int) (w : World) (w0 : (Lit.int .u64 n).wf = true) (w1 : IsRow .u64 w a1 len1 cap1 z1) :
    Calls Try.prog 4 #[.int .u64 n, .slice a1 len1 cap1] w fun e w' => e = .returned (.bool true) ∧ Below w.heap.size w w' := by
  obtain ⟨m, hn, rfl⟩ : ∃ m : Nat, m < 18446744073709551616 ∧ n = (m : Int) := by
    have h := w0
    simp [Lit.wf, IntKind.min, IntKind.max, IntKind.signed, IntKind.bits] at h
    exact ⟨n.toNat, by omega, by omega⟩
  obtain ⟨L, hL, _, _, hL0⟩ := nums_of_row w1
  have HL := Lib.hid hL0
  have Hm := Lib.hid hn
  obtain ⟨r, hr⟩ : ∃ r, digR m = r := ⟨_, rfl⟩
  obtain ⟨q, hq⟩ : ∃ q, numR L = q := ⟨_, rfl⟩
  have HD := Lib.hid (digits_k m hn r hr)
  have HRD := Lib.hid (rdigits_k m hn r hr)
  have HN := Lib.hid (fun W => number_k (.slice a1 len1 cap1) L q hq W)
  have HRN := Lib.hid (fun W => rnumber_k (.slice a1 len1 cap1) L q hq W)
  clear w0 w1 hL hL0 hn hr hq
  obtain ⟨l1, c1⟩ := r
  obtain ⟨n2, c2⟩ := q
  dsimp only at HD HRD HN HRN
  go_enter Try.func4, Try.ntmps4
  go_wp2_with fail
  refine (HD.out _).mono ?_
  rintro e w1 ⟨a, rfl, ha, hg1⟩
  have HA := Lib.hid ha
  clear ha
  simp only []
  go_wp2_with fail
  refine (HRD.out _).mono ?_
  rintro e w2 ⟨b, rfl, hb, hg2⟩
  have HB := Lib.hid hb
  clear hb
  simp only []
  go_wp2_with fail
  refine (HN.out _ (HL.out.grown (grown_trans hg1.out hg2.out))).mono ?_
  rintro e w3 ⟨rfl, hg3⟩
  simp only []
  go_wp2_with fail
  refine (HRN.out _ (HL.out.grown (grown_trans (grown_trans hg1.out hg2.out) hg3.out))).mono ?_
  rintro e w4 ⟨rfl, hg4⟩
  simp only []
  go_wp2_with fail
  refine (lives_any _).mono ?_
  rintro e w5 ⟨rfl, hg5⟩
  simp only []
  go_wp2_with fail
  refine (same_k _ _ l1 _ (HA.out.grown (grown_trans (grown_trans (grown_trans hg2.out hg3.out) hg4.out) hg5.out)) (HB.out.grown (grown_trans (grown_trans hg3.out hg4.out) hg5.out))).mono ?_
  rintro e w6 ⟨rfl, hg6⟩
  simp only []
  go_wp2_with fail
  go_ret
  refine ⟨by simp, bel_grown (grown_trans (grown_trans (grown_trans (grown_trans (grown_trans hg1.out hg2.out) hg3.out) hg4.out) hg5.out) hg6.out) (Nat.le_refl _)⟩

set_option maxRecDepth 100000 in
set_option maxHeartbeats 4000000 in
theorem zerosCodes_walk (s : ByteArray) (a1 : Option Addr) (len1 cap1 : Nat) (z1 : List Int) (w : World) (w0 : s.size ≤ maxLen) (w1 : IsRow .u64 w a1 len1 cap1 z1) (hreach : len1 * 8 ≤ 140737488351232) :
    Calls Try.prog 3 #[.string s, .slice a1 len1 cap1] w fun e w' => e = .returned (.bool true) ∧ Below w.heap.size w w' := by
  obtain ⟨L, hL, _, h64, hL0⟩ := nums_of_row w1
  have HL := Lib.hid hL0
  obtain ⟨r, hr⟩ : ∃ r, encR s.data.toList = r := ⟨_, rfl⟩
  obtain ⟨q, hq⟩ : ∃ q, decR L = q := ⟨_, rfl⟩
  have HD := Lib.hid (encode_k s w0 r hr)
  have HRD := Lib.hid (rencode_k s w0 r hr)
  have HN := Lib.hid (fun W => decode_k (.slice a1 len1 cap1) L h64 q hq W)
  have HRN := Lib.hid (fun W => rdecode_k (.slice a1 len1 cap1) L h64 (by rw [hL]; exact hreach) q hq W)
  clear w0 w1 hL hL0 hr hq h64 hreach
  obtain ⟨l1, c1⟩ := r
  obtain ⟨t, n2, c2⟩ := q
  dsimp only at HD HRD HN HRN
  generalize (⟨t.toArray⟩ : ByteArray) = t at *
  go_enter Try.func3, Try.ntmps3
  go_wp2_with fail
  refine (HD.out _).mono ?_
  rintro e w1 ⟨a, rfl, ha, hg1⟩
  have HA := Lib.hid ha
  clear ha
  simp only []
  go_wp2_with fail
  refine (HRD.out _).mono ?_
  rintro e w2 ⟨b, rfl, hb, hg2⟩
  have HB := Lib.hid hb
  clear hb
  simp only []
  go_wp2_with fail
  refine (HN.out _ (HL.out.grown (grown_trans hg1.out hg2.out))).mono ?_
  rintro e w3 ⟨rfl, hg3⟩
  simp only []
  go_wp2_with fail
  refine (HRN.out _ (HL.out.grown (grown_trans (grown_trans hg1.out hg2.out) hg3.out))).mono ?_
  rintro e w4 ⟨rfl, hg4⟩
  simp only []
  go_wp2_with fail
  refine (lives_any _).mono ?_
  rintro e w5 ⟨rfl, hg5⟩
  simp only []
  go_wp2_with fail
  refine (same_k _ _ l1 _ (HA.out.grown (grown_trans (grown_trans (grown_trans hg2.out hg3.out) hg4.out) hg5.out)) (HB.out.grown (grown_trans (grown_trans hg3.out hg4.out) hg5.out))).mono ?_
  rintro e w6 ⟨rfl, hg6⟩
  simp only []
  go_wp2_with fail
  go_ret
  refine ⟨by simp, bel_grown (grown_trans (grown_trans (grown_trans (grown_trans (grown_trans hg1.out hg2.out) hg3.out) hg4.out) hg5.out) hg6.out) (Nat.le_refl _)⟩

set_option maxRecDepth 100000 in
set_option maxHeartbeats 8000000 in
theorem zerosBack_walk (s : ByteArray) (a1 : Option Addr) (len1 cap1 : Nat) (z1 : List Int) (w : World) (w0 : s.size ≤ maxLen) (w1 : IsRow .u64 w a1 len1 cap1 z1) :
    Calls Try.prog 5 #[.string s, .slice a1 len1 cap1] w fun e w' => e = .returned (.bool true) ∧ Below w.heap.size w w' := by
  obtain ⟨L, hL, hlc, h64, hL0⟩ := nums_of_row w1
  have HL := Lib.hid hL0
  have hl63 : (len1 : Int) ≤ 9223372036854775807 := by have := hL0; obtain ⟨_, _, _, h, _⟩ := this; unfold maxLen at h; omega
  have hs63 : (s.size : Int) < 9223372036854775807 ∨ (s.size : Int) = 9223372036854775807 := by unfold maxLen at w0; omega
  have hbk := decR_encR s.data.toList
  have hsz : (encR s.data.toList).2 = 0 → s.size ≤ 65536 := fun h => by rw [← size_data]; exact encR_small _ h
  have HD := Lib.hid (encode_k s w0 _ rfl)
  have HK : Hid ((encR s.data.toList).2 = 0 → (encR s.data.toList).1.length ≤ s.size + 1 ∧ ∀ (v : Value) (W : World), NumsAt W v (encR s.data.toList).1 → Calls Try.prog 9 #[v] W fun e w' => e = .returned (.tuple #[.string s, .int .i64 ((encR s.data.toList).1.length : Nat), .int .i64 0]) ∧ Hid (W.grownBy w' none)) := fun h => ⟨by rw [← size_data]; exact (hbk h).2, fun v W hv => by
    have h2 := decode_k v (encR s.data.toList).1 (encR_le _) _ (hbk h).1 W hv
    simp only [mk_data] at h2
    exact h2⟩
  have HN := Lib.hid (fun W => decode_k (.slice a1 len1 cap1) L h64 _ rfl W)
  have HN0 : Hid ((decR L).2.2 ≠ 0 → (decR L).1 = [] ∧ (decR L).2.1 = 0) := decR_none L
  have HN1 : Hid ((decR L).2.2 = 0 → 1 ≤ (decR L).2.1 ∧ (decR L).2.1 ≤ len1 ∧ ∀ W : World, Calls Try.prog 7 #[.string ⟨(decR L).1.toArray⟩] W fun e w' => ∃ v, e = .returned (.tuple #[v, .int .i64 0]) ∧ NumsAt w' v (L.take (decR L).2.1) ∧ Hid (W.grownBy w' none)) := fun h => by
    obtain ⟨h1, h2, h3⟩ := encR_decR L h
    refine ⟨h2, by omega, fun W => ?_⟩
    have hlen : (decR L).1.length ≤ 65536 := encR_small _ (by rw [h1])
    have := encode_k ⟨(decR L).1.toArray⟩ (by show (decR L).1.toArray.size ≤ _; simp; unfold maxLen; omega) _ h1 W
    exact this
  have HLt : Hid (∀ (W : World) (n : Nat), n ≤ len1 → w.grownBy W none → NumsAt W (.slice a1 n cap1) (L.take n)) := fun W n hn hg => (NumsAt.take (hL0.grown hg) n (by omega) cap1)
  clear w0 w1 hL hL0 hbk h64
  generalize (encR s.data.toList).1 = l1 at *
  generalize (encR s.data.toList).2 = c1 at *
  obtain ⟨q, hq⟩ : ∃ q, decR L = q := ⟨_, rfl⟩
  rw [hq] at HN HN0 HN1
  clear hq
  obtain ⟨t, n, c2⟩ := q
  dsimp only at HN HN0 HN1
  go_enter Try.func5, Try.ntmps5
  go_wp2_with fail
  refine (lives_any _).mono ?_
  rintro e w2 ⟨rfl, hg0⟩
  simp only []
  go_wp2_with fail
  refine (HD.out _).mono ?_
  rintro e w3 ⟨a, rfl, ha, hg1⟩
  have HG3 : Hid (w.grownBy w3 none) := grown_trans hg0.out hg1.out
  clear hg0 hg1
  simp only []
  have hrest : ∀ (W : World), Hid (w.grownBy W none) → True := fun _ _ => trivial
  by_cases hc : c1 = 0
  · subst hc
    have hk := HK.out rfl
    have hsz2 := hsz rfl
    obtain ⟨hlen, hdec⟩ := hk
    obtain ⟨ax, acp, rfl, ham, hac⟩ := id ha
    have HA := Lib.hid ha
    have Hdec := Lib.hid hdec
    have hle1 : (l1.length : Int) ≤ (s.size : Int) + 1 := by omega
    have hsz3 : (s.size : Int) ≤ 65536 := by omega
    clear ha hdec hsz hsz2 HK hs63 hac ham
    go_wp2_with fail
    refine (Hdec.out _ _ HA.out).mono ?_
    rintro e w4 ⟨rfl, hg4⟩
    have HG := Lib.hid (grown_trans HG3.out hg4.out)
    simp only []
    clear HG3 hg4 HA Hdec
    go_wp2_with fail
    refine (HN.out _ (HL.out.grown HG.out)).mono ?_
    rintro e w5 ⟨rfl, hg5⟩
    have HG5 := Lib.hid (grown_trans HG.out hg5.out)
    simp only []
    by_cases h3 : c2 = 0
    · subst h3
      obtain ⟨hn1, hn2, hen⟩ := HN1.out rfl
      have Hen := Lib.hid hen
      have hn3 : (n : Int) ≤ (cap1 : Int) := by omega
      have hn0 : (0 : Int) ≤ (n : Int) := by omega
      clear hen HN1 HN0 hg5 HG
      go_wp2_with fail
      refine (Hen.out _).mono ?_
      rintro e w6 ⟨b, rfl, hb, hg6⟩
      have HG6 := Lib.hid (grown_trans HG5.out hg6.out)
      have HB := Lib.hid hb
      clear hb hg6 HG5 Hen
      simp only []
      go_wp2_with fail
      refine (same_k _ _ (L.take n) _ HB.out (HLt.out _ n hn2 HG6.out)).mono ?_
      rintro e w7 ⟨rfl, hg7⟩
      simp only []
      go_wp2_with fail
      go_ret
      exact ⟨rfl, bel_grown (grown_trans HG6.out hg7.out) (Nat.le_refl _)⟩
    · obtain ⟨rfl, rfl⟩ := HN0.out h3
      have hc3 : (c2 == 0) = false := by simpa using h3
      clear h3 HN0 HN1 hg5 HG
      go_wp2_with fail
      go_ret
      exact ⟨rfl, bel_grown HG5.out (Nat.le_refl _)⟩
  · have hc' : (c1 == 0) = false := by simpa using hc
    have HA := Lib.hid ha
    clear ha hc hsz HK
    go_wp2_with fail
    refine (HN.out _ (HL.out.grown HG3.out)).mono ?_
    rintro e w5 ⟨rfl, hg5⟩
    have HG5 := Lib.hid (grown_trans HG3.out hg5.out)
    simp only []
    by_cases h3 : c2 = 0
    · subst h3
      obtain ⟨hn1, hn2, hen⟩ := HN1.out rfl
      have Hen := Lib.hid hen
      have hn3 : (n : Int) ≤ (cap1 : Int) := by omega
      have hn0 : (0 : Int) ≤ (n : Int) := by omega
      clear hen HN1 HN0 hg5 HG3
      go_wp2_with fail
      refine (Hen.out _).mono ?_
      rintro e w6 ⟨b, rfl, hb, hg6⟩
      have HG6 := Lib.hid (grown_trans HG5.out hg6.out)
      have HB := Lib.hid hb
      clear hb hg6 HG5 Hen
      simp only []
      go_wp2_with fail
      refine (same_k _ _ (L.take n) _ HB.out (HLt.out _ n hn2 HG6.out)).mono ?_
      rintro e w7 ⟨rfl, hg7⟩
      simp only []
      go_wp2_with fail
      go_ret
      exact ⟨rfl, bel_grown (grown_trans HG6.out hg7.out) (Nat.le_refl _)⟩
    · obtain ⟨rfl, rfl⟩ := HN0.out h3
      have hc3 : (c2 == 0) = false := by simpa using h3
      clear h3 HN0 HN1 hg5 HG3
      go_wp2_with fail
      go_ret
      exact ⟨rfl, bel_grown HG5.out (Nat.le_refl _)⟩
end Go.Proofs.Yteeieeoieagclaa
