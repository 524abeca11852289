/- canon's Next and Read, at a symbol's bits. -/
import Derived.Test.YtidmmcgnghdfdaaDoorCoded5
namespace Go.Proofs.YtidmmcgnghdfdaaDoor
open Go.RowKit SortPlain PackPlain CanonPlain BitsPlain
set_option linter.unusedVariables false

theorem syms_mono (X : List Nat) {l m : Nat} (h : l ≤ m) : (syms X l).length ≤ (syms X m).length := by
  obtain ⟨r, hr⟩ := syms_pre X l (m - l)
  rw [show l + (m - l) = m by omega] at hr
  rw [hr, List.length_append]
  omega
/-- what the first l bits of a symbol's code are -/
theorem bits_succ (m : List Bool) (a l : Nat) (h : a + l < m.length) : nat ((m.drop a).take (l + 1)) = 2 * nat ((m.drop a).take l) + nat ((m.drop (a + l)).take 1) := by
  have e : (m.drop a).take (l + 1) = (m.drop a).take l ++ (m.drop (a + l)).take 1 := by
    rw [List.take_add, List.drop_drop]
  rw [e, nat_append]
  have : ((m.drop (a + l)).take 1).length = 1 := by simp; omega
  rw [this]
  omega
theorem nat_one (m : List Bool) : nat (m.take 1) ≤ 1 := by
  have h := nat_lt (m.take 1)
  have h2 : (m.take 1).length ≤ 1 := List.length_take_le _ _
  have h3 := pow_le_pow2 h2
  omega
theorem u64_or (c d bt c' : Nat) (hd : d = 2 * c) (hb : bt ≤ 1) (hc' : c' = 2 * c + bt) (hc : c ≤ 65536) : bits .or .u64 (d : Int) (bt : Int) = (c' : Int) := by
  have h := u64_join c 1 bt (by omega) (by omega) (by omega)
  rw [hc', hd]
  have e : IntKind.u64.wrap ((c : Int) * (2 : Int) ^ 1) = ((2 * c : Nat) : Int) := by
    rw [wrap64u_in _ (by omega) (by omega)]
    omega
  rw [e] at h
  rw [h]
  omega

set_option maxRecDepth 100000 in
set_option maxHeartbeats 8000000 in
theorem bnext_any (b : Nat) (vx : Value) (X : List Nat) (s : ByteArray) (m : List Bool) (a i : Nat) (w : World) (hb : BookAt w b X vx) (hok : CodeOk X) (hm : IsBits s.data.toList m) (hml : m.length ≤ 1048576) (hi : i < X.length) (h1 : 1 ≤ X.getD i 0) (ha : a + X.getD i 0 ≤ m.length) (hbits : (m.drop a).take (X.getD i 0) = bitsOf (codeAt X i) (X.getD i 0)) :
    Calls Tryd.prog 29 #[.pointer (some ⟨b, 0, none⟩), .agg #[.string s, .int .i64 (m.length : Nat)], .int .i64 (a : Nat)] w fun e w' => e = .returned (.tuple #[.int .u64 (i : Nat), .int .i64 (a + X.getD i 0 : Nat), .int .i64 0]) ∧ Hid (w.grownBy w' none) := by
  have hle := hok.le i
  obtain ⟨L, hL⟩ : ∃ L, L = X.getD i 0 := ⟨_, rfl⟩
  have hle2 : L ≤ 15 := by rw [hL]; exact hle
  have hXi : X[i]? = some L := by rw [hL]; simp [List.getD, hi]
  rw [← hL] at h1 ha hbits ⊢
  have hcl : codeAt X i < 2 ^ L := Nat.lt_of_lt_of_le (code_lt X i L hXi h1) (by
    refine gc_le X ?_ L hle2
    have h2 := hok.room_le
    have h3 := rs_sum hok
    rw [h3] at h2
    exact h2)
  have HB := Lib.hid hb
  have HA : Hid (∀ (W : World) (q : Nat), q + 1 ≤ m.length → Calls Tryd.prog 33 #[.agg #[.string s, .int .i64 (m.length : Nat)], .int .i64 (q : Nat), .int .i64 1] W fun e w' => e = .returned (.int .u64 (nat ((m.drop q).take 1) : Nat)) ∧ Hid (W.grownBy w' none)) := fun W q hq => by
    have hlen := hm.length
    rw [size_data] at hlen
    refine (at_any s (m.length : Nat) q 1 W (by omega) (by omega) (by omega)).mono ?_
    rintro e w' ⟨rfl, h2⟩
    rw [hm.slice q 1 hq]
    exact ⟨rfl, grown_of_below h2⟩
  have HCd : Hid (∀ l, l ≤ L → nat ((m.drop a).take l) = codeAt X i / 2 ^ (L - l)) := fun l hl => code_bits _ L l hl _ hbits hcl
  have HNo : Hid (∀ l, l < L → gc X l ≤ nat ((m.drop a).take l)) := fun l hl => by rw [HCd.out l (by omega)]; exact short_no X i L l hXi hl
  have HSb : Hid (∀ l, l < L → a + l < m.length) := fun l hl => by omega
  have HSb0 : Hid (∀ l, l < L → a + l < m.length) := HSb.out
  have HSt : Hid (∀ l, l ≤ L → nat ((m.drop a).take l) ≤ 32768) := fun l hl => by
    have h2 := nat_lt ((m.drop a).take l)
    have h3 : ((m.drop a).take l).length ≤ 15 := Nat.le_trans (List.length_take_le _ _) (by omega)
    have h4 := pow_le_pow2 h3
    have e : (2 : Nat) ^ 15 = 32768 := by decide
    omega
  have hsg := syms_get X i L hXi h1 hle2
  have hk := take_count X i L hXi
  have HYes : Hid (nat ((m.drop a).take L) = fc X L + (X.take i).count L) := by
    show _ = _
    rw [HCd.out L (Nat.le_refl _), Nat.sub_self, Nat.pow_zero, Nat.div_one]
    unfold codeAt
    rw [← hL]
  have hSlt : (syms X (L - 1)).length + (X.take i).count L < (syms X 15).length := (List.getElem?_eq_some_iff.1 hsg).1
  have HSy : Hid (∀ l, l ≤ L → (syms X (l - 1)).length < (syms X 15).length) := fun l hl => by
    have := syms_mono X (show l - 1 ≤ L - 1 by omega)
    omega
  have HSl : Hid ((syms X 15).length ≤ 512) := Nat.le_trans (syms_le X 15) hok.len
  have HSs : Hid (∀ l, 1 ≤ l → (syms X l).length = (syms X (l - 1)).length + X.count l) := fun l hl => by
    obtain ⟨q, rfl⟩ : ∃ q, l = q + 1 := ⟨l - 1, by omega⟩
    exact syms_length_succ X q
  have HFn : Hid (∀ (W : World) (c l q : Nat), w.grownBy W none → 1 ≤ l → l ≤ 15 → gc X l ≤ c → c ≤ 65536 → Calls Tryd.prog 47 #[.pointer (some ⟨b, 0, none⟩), .int .u64 (c : Nat), .int .i64 (l : Nat), .int .i64 (q : Nat)] W fun e w' => e = .returned (.int .i64 (-1)) ∧ w' = W) := fun W c l q hg h2 h3 h4 h5 => find_no b vx X c l q W (hb.grown hg) h2 h3 h4 h5
  have HFy : Hid (∀ (W : World) (c : Nat), w.grownBy W none → c = fc X L + (X.take i).count L → Calls Tryd.prog 47 #[.pointer (some ⟨b, 0, none⟩), .int .u64 (c : Nat), .int .i64 (L : Nat), .int .i64 ((syms X (L - 1)).length : Nat)] W fun e w' => e = .returned (.int .i64 (i : Nat)) ∧ w' = W) := fun W c hg h2 =>
    find_yes b vx X c ((X.take i).count L) L (syms X (L - 1)).length i W h2 (hb.grown hg) h1 hle2 hk hok.len (by
      have h3 := gc_lt hok L hle2
      rw [fc_gc X L h1] at h3
      omega) (by have := HSl.out; omega) hsg
  have hXl := hok.len
  obtain ⟨sv, cv, hrow, hsv, hcv⟩ := hb
  have Hcl : Hid (∀ W : World, w.grownBy W none → ∀ l, 1 ≤ l → l ≤ 15 → W.cell? ⟨b, l, none⟩ = some (.int .i64 (X.count l : Nat))) := fun W hg l h2 h3 => by
    rw [row_cell (row_kept hrow hg (by simp)) _ _ (bookRow_count _ _ _ _ _ l (by omega))]
    unfold cntT
    rw [if_pos (by omega)]
  have c32 := row_cell hrow _ _ (bookRow_syms _ _ _ _ _)
  obtain ⟨asv, cap, rfl, hq1, hq2⟩ := hsv
  clear hq1 hq2
  have Hc32 := Lib.hid c32
  have HcX : Hid (∀ l, X.count l ≤ 512) := fun l => Nat.le_trans List.count_le_length hok.len
  clear hcv hrow hsg hk hbits hcl hL hle hXi hSlt hok HB c32
  obtain ⟨n, hn⟩ : ∃ n, n = m.length := ⟨_, rfl⟩
  rw [← hn] at HA hml ha HSb ⊢
  clear hm hn
  obtain ⟨S, hS⟩ : ∃ S, S = (syms X 15).length := ⟨_, rfl⟩
  rw [← hS] at HSy HSl Hc32
  clear hS
  have hai : (a : Int) + (L : Int) ≤ (n : Int) := by omega
  have hni : (n : Int) ≤ 1048576 := by omega
  have hSl2 := HSl.out
  have hSi : (S : Int) ≤ 512 := by omega
  have hi512 : (i : Int) < 512 := by omega
  go_enter Tryd.func29, Tryd.ntmps29
  have hg0 := World.grownBy_alloc w (.cells #[.string s, .int .i64 (n : Nat)] 31) none
  have hf := heap_alloc_new w (.cells #[.string s, .int .i64 (n : Nat)] 31)
  have HF := Lib.hid (fun W' (hg : (w.alloc (.cells #[.string s, .int .i64 (n : Nat)] 31)).grownBy W' none) => cells2 hf hg (by simp))
  have Hg0 := Lib.hid hg0
  have c32 : (w.alloc (.cells #[.string s, .int .i64 (n : Nat)] 31)).cell? ⟨b, 32, none⟩ = some (.slice asv S cap) := hg0.cell Hc32.out (by simp)
  clear hf hg0
  go_wp2_with fail
  generalize w.alloc (.cells #[.string s, .int .i64 (n : Nat)] 31) = w0 at HF Hg0 c32 ⊢
  clear c32
  obtain ⟨p, hp⟩ : ∃ p, p = w.heap.size := ⟨_, rfl⟩
  rw [← hp] at HF ⊢
  clear hp
  go_loopw [9, 10, 11, 12] (fun cv av rv lv wr => ∃ (l c q r : Nat), lv = .int .i64 (l : Nat) ∧ 1 ≤ l ∧ l ≤ L ∧ cv = .int .u64 (c : Nat) ∧ av = .int .i64 (q : Nat) ∧ rv = .int .i64 (r : Nat) ∧ Hid (c = nat ((m.drop a).take (l - 1))) ∧ Hid (q = (syms X (l - 1)).length) ∧ Hid (q + r = S) ∧ Hid (w0.grownBy wr none)) (fun _ _ _ lv _ => L - (intOf lv).toNat)
  case atStart => exact ⟨1, 0, 0, S, rfl, Nat.le_refl _, h1, rfl, rfl, rfl, by show _ = _; simp [nat_nil], by show _ = _; simp [syms], by show _ = _; omega, grown_self _ _⟩
  case round =>
    obtain ⟨l, c, q, r, rfl, hl1, hl2, rfl, rfl, rfl, Hc, Hq, Hr, hg⟩ := hrel
    have hgw : Hid (w.grownBy wr none) := grown_trans Hg0.out hg.out
    have hr0 : 0 < r := by have h2 := HSy.out l hl2; have := Hq.out; have := Hr.out; omega
    have hrS : r ≤ 512 := by have := Hr.out; omega
    have hqS : q ≤ 512 := by have := Hr.out; omega
    have hr0i : ((r : Int) == 0) = false := by simp; omega
    have hl1i : (1 : Int) ≤ (l : Int) := by omega
    have hl2i : (l : Int) ≤ 15 := by omega
    have hali : (a : Int) + (l : Int) ≤ (n : Int) := by omega
    obtain ⟨a1, a2, a3, a4, a5⟩ := HF.out wr hg.out
    have hcb : c ≤ 32768 := by have := HSt.out (l - 1) (by omega); have := Hc.out; omega
    have hSl : a + (l - 1) < m.length := HSb0.out (l - 1) (by omega)
    obtain ⟨bt, hbt⟩ : ∃ bt, bt = nat ((m.drop (a + (l - 1))).take 1) := ⟨_, rfl⟩
    have hb1 : bt ≤ 1 := by rw [hbt]; exact nat_one _
    obtain ⟨c', hc'⟩ : ∃ c', c' = 2 * c + bt := ⟨_, rfl⟩
    have Hc' : Hid (c' = nat ((m.drop a).take l)) := by
      show _ = _
      have h2 := bits_succ m a (l - 1) hSl
      rw [show l - 1 + 1 = l by omega] at h2
      rw [h2, hc', Hc.out, hbt]
    have hcb' : c' ≤ 32768 := by have := HSt.out l hl2; have := Hc'.out; omega
    obtain ⟨d, hd⟩ : ∃ d, d = 2 * c := ⟨_, rfl⟩
    have hw1 : IntKind.u64.wrap ((c : Int) * 2) = (d : Int) := by rw [wrap64u_in _ (by omega) (by omega)]; omega
    have hor := u64_or c d bt c' hd hb1 hc' (by omega)
    have HA1 : Hid (∀ W : World, Calls Tryd.prog 33 #[.agg #[.string s, .int .i64 (n : Nat)], .int .i64 ((a : Int) + (l : Int) - 1), .int .i64 1] W fun e w' => e = .returned (.int .u64 (bt : Nat)) ∧ Hid (W.grownBy w' none)) := fun W => by
      have h2 := HA.out W (a + (l - 1)) (by omega)
      rw [← hbt, show ((a + (l - 1) : Nat) : Int) = (a : Int) + (l : Int) - 1 by omega] at h2
      exact h2
    clear hbt hc' hd hSl
    by_cases hlt : l < L
    · have HF1 : Hid (∀ W : World, w0.grownBy W none → Calls Tryd.prog 47 #[.pointer (some ⟨b, 0, none⟩), .int .u64 (c' : Nat), .int .i64 (l : Nat), .int .i64 (q : Nat)] W fun e w' => e = .returned (.int .i64 (-1)) ∧ w' = W) := fun W hW => HFn.out W c' l q (grown_trans Hg0.out hW) hl1 (by omega) (by have := HNo.out l hlt; have := Hc'.out; omega) (by omega)
      have hcx := HcX.out l
      have hss := HSs.out l hl1
      rw [← Hq.out] at hss
      have hsy1 := HSy.out (l + 1) hlt
      rw [Nat.add_sub_cancel] at hsy1
      obtain ⟨N, hN⟩ : ∃ N, N = X.count l := ⟨_, rfl⟩
      rw [← hN] at hcx hss
      have hNr : N ≤ r := by have := Hr.out; omega
      have Hss := Lib.hid hss
      have HcN : Hid (∀ W : World, w0.grownBy W none → W.cell? ⟨b, l, none⟩ = some (.int .i64 (N : Nat))) := fun W hW => by rw [hN]; exact Hcl.out W (grown_trans Hg0.out hW) l hl1 (by omega)
      have hw3 : IntKind.i64.wrap ((q : Int) + (N : Int)) = ((q + N : Nat) : Int) := by rw [IntWalk.i64_in _ (by omega)]; omega
      have hw4 : IntKind.i64.wrap ((r : Int) - (N : Int)) = ((r - N : Nat) : Int) := by rw [IntWalk.i64_in _ (by omega)]; omega
      have hlt16 : (l : Int) < 16 := by omega
      clear hN hss hsy1
      go_wp2_with (first
        | (go_at_call 33; refine (HA1.out _).mono ?_; rintro e w1 ⟨rfl, hg1⟩)
        | (go_at_call 47; refine (HF1.out _ (grown_trans hg.out hg1.out)).mono ?_; rintro e w2 ⟨rfl, hw2⟩; obtain rfl : w1 = w2 := hw2.symm; have cN := HcN.out w1 (grown_trans hg.out hg1.out))
        | fail)
      go_quiet (fail)
      clear cN
      go_wp2_with fail
      refine ⟨⟨l + 1, c', q + N, r - N, by rw [Int.natCast_add]; rfl, by omega, by omega, rfl, rfl, rfl, Hc', ?_, ?_, ?_⟩, by simp [intOf]; omega⟩
      · show _ = _
        rw [Nat.add_sub_cancel, Hss.out]
      · show _ = _
        have := Hr.out
        omega
      · exact grown_trans hg.out (grown_trans hg1.out (grown_drewN _ _ _))
    · obtain rfl : l = L := by omega
      have HF1 : Hid (∀ W : World, w0.grownBy W none → Calls Tryd.prog 47 #[.pointer (some ⟨b, 0, none⟩), .int .u64 (c' : Nat), .int .i64 (l : Nat), .int .i64 (q : Nat)] W fun e w' => e = .returned (.int .i64 (i : Nat)) ∧ w' = W) := fun W hW => by
        have h2 := HFy.out W c' (grown_trans Hg0.out hW) (by rw [Hc'.out, HYes.out])
        rw [← Hq.out] at h2
        exact h2
      have hw5 : IntKind.u64.wrap (i : Int) = (i : Int) := wrap64u_in _ (by omega) (by omega)
      go_wp2_with (first
        | (go_at_call 33; refine (HA1.out _).mono ?_; rintro e w1 ⟨rfl, hg1⟩)
        | (go_at_call 47; refine (HF1.out _ (grown_trans hg.out hg1.out)).mono ?_; rintro e w2 ⟨rfl, hw2⟩; obtain rfl : w1 = w2 := hw2.symm)
        | fail)
      go_ret3
      exact ⟨by rw [Int.natCast_add]; rfl, grown_trans Hg0.out (grown_trans hg.out hg1.out)⟩
end Go.Proofs.YtidmmcgnghdfdaaDoor
