/- What pack's tests of weights and of a limit tell. -/
import Derived.Test.YtidmmcgnghdfdaaDoorNums
import Derived.Test.YtidmmcgnghdfdaaDoorSort5
namespace Go.Proofs.YtidmmcgnghdfdaaDoor
open Go.RowKit SortPlain
set_option linter.unusedVariables false

set_option maxRecDepth 100000 in
theorem heavy_any (x : Nat) (w : World) : Calls Tryd.prog 35 #[.int .u64 (x : Nat)] w fun e w' => e = .returned (.bool (decide (1099511627776 < x))) ∧ w' = w := by
  go_enter Tryd.func35, Tryd.ntmps35
  go_wp2_with fail
  go_ret
  refine ⟨?_, rfl⟩
  apply ret_bool
  simp
  omega

set_option maxRecDepth 100000 in
set_option maxHeartbeats 2000000 in
theorem index_any (v : Value) (xs : List Nat) (w : World) (hv : NumsAt w v xs) :
    Calls Tryd.prog 48 #[v, .func (.func 35) #[] #[]] w fun e w' => ∃ k : Int, e = .returned (.int .i64 k) ∧ (0 ≤ k ↔ ∃ x ∈ xs, 1099511627776 < x) ∧ w' = w := by
  have HT := Lib.hid (fun x => heavy_any x w)
  obtain ⟨a, cap, rfl, hm, hc⟩ := hv
  unfold maxLen at hm
  obtain ⟨n, hn⟩ : ∃ n, n = xs.length := ⟨_, rfl⟩
  rw [← hn] at hm ⊢
  have Hn := Lib.hid hn
  clear hn
  go_enter Tryd.func48, Tryd.ntmps48
  go_wp2
  go_loopw [8] (fun iv wr => ∃ i : Nat, iv = .int .i64 (i : Nat) ∧ i ≤ n ∧ Hid (∀ x ∈ xs.take i, x ≤ 1099511627776) ∧ wr = w) (fun iv _ => n - (intOf iv).toNat)
  case atStart => exact ⟨0, rfl, Nat.zero_le _, by intro x hx; simp at hx, rfl⟩
  case round =>
    obtain ⟨i, rfl, hi, hall, rfl⟩ := hrel
    by_cases hlt : i < n
    · have hi2 : i < xs.length := by have := Hn.out; omega
      obtain ⟨x, rfl, hx⟩ := hc i hi2
      have hnext : xs.take (i + 1) = xs.take i ++ [xs[i]] := by rw [List.take_add_one, List.getElem?_eq_getElem hi2]; rfl
      have hmem : xs[i] ∈ xs := List.getElem_mem hi2
      have Hnext := Lib.hid hnext
      generalize xs[i] = c at hx hmem Hnext
      have Hmem := Lib.hid hmem
      have HTc := Lib.hid (HT.out c)
      clear hc hnext hmem HT
      by_cases hc2 : 1099511627776 < c
      · have htr : decide (1099511627776 < c) = true := by simpa using hc2
        rw [htr] at HTc
        have Hc2 := Lib.hid hc2
        clear hc2 htr
        go_wp2_with (first
          | (go_at_call 35; refine HTc.out.mono ?_; rintro e w1 ⟨rfl, rfl⟩)
          | fail)
        go_ret
        exact ⟨i, rfl, ⟨fun _ => ⟨c, Hmem.out, Hc2.out⟩, fun _ => by omega⟩, rfl⟩
      · have htr : decide (1099511627776 < c) = false := by simpa using hc2
        rw [htr] at HTc
        have Hc2 : Hid (c ≤ 1099511627776) := by show _ ≤ _; omega
        clear hc2 htr
        go_wp2_with (first
          | (go_at_call 35; refine HTc.out.mono ?_; rintro e w1 ⟨rfl, rfl⟩)
          | fail)
        refine ⟨⟨i + 1, by rw [Int.natCast_add]; rfl, by omega, ?_, trivial⟩, by simp [intOf]; omega⟩
        intro y hy
        rw [Hnext.out] at hy
        rcases List.mem_append.1 hy with hy | hy
        · exact hall.out y hy
        · rw [List.mem_singleton.1 hy]; exact Hc2.out
    · clear hc HT
      go_wp2_with fail
      go_ret
      refine ⟨-1, rfl, ⟨fun h => by omega, fun ⟨x, hx, h2⟩ => ?_⟩, rfl⟩
      have h3 := hall.out x (by rw [List.take_of_length_le (by have := Hn.out; omega)]; exact hx)
      omega

set_option maxRecDepth 100000 in
theorem contains_any (v : Value) (xs : List Nat) (w : World) (hv : NumsAt w v xs) :
    Calls Tryd.prog 34 #[v, .func (.func 35) #[] #[]] w fun e w' => e = .returned (.bool (decide (∃ x ∈ xs, 1099511627776 < x))) ∧ w' = w := by
  have HI := Lib.hid (index_any v xs w hv)
  clear hv
  go_enter Tryd.func34, Tryd.ntmps34
  go_wp2_with (first
    | (go_at_call 48; refine HI.out.mono ?_; rintro e w1 ⟨k, rfl, hk, rfl⟩; have Hk := Lib.hid hk; clear hk)
    | fail)
  go_ret
  refine ⟨ret_bool ?_, rfl⟩
  exact decide_eq_decide.2 Hk.out

set_option maxRecDepth 100000 in
set_option maxHeartbeats 1000000 in
theorem alphabet_any (v : Value) (xs : List Nat) (w : World) (hv : NumsAt w v xs) (hl : xs.length ≤ 512) (hx : ∀ x ∈ xs, x ≤ 1099511627776) :
    Calls Tryd.prog 14 #[v] w fun e w' => e = .returned (.bool true) ∧ w' = w := by
  have HC := Lib.hid (contains_any v xs w hv)
  rw [decide_eq_false (p := ∃ x ∈ xs, 1099511627776 < x) (by rintro ⟨x, h1, h2⟩; have := hx x h1; omega)] at HC
  obtain ⟨a, cp, rfl, hm, hcc⟩ := hv
  clear hm hcc hx
  generalize xs.length = n at *
  have hl' : (n : Int) ≤ 512 := by omega
  go_enter Tryd.func14, Tryd.ntmps14
  go_wp2_with (first
    | (go_at_call 34; refine HC.out.mono ?_; rintro e w1 ⟨rfl, rfl⟩)
    | fail)
  go_ret
  exact ⟨by simp, rfl⟩
set_option maxRecDepth 100000 in
theorem bits_ok (l : Int) (w : World) (h1 : 1 ≤ l) (h2 : l ≤ 15) : Calls Tryd.prog 15 #[.int .i64 l] w fun e w' => e = .returned (.bool true) ∧ w' = w := by
  go_enter Tryd.func15, Tryd.ntmps15
  go_wp2_with fail
  go_ret
  exact ⟨by simp, rfl⟩
set_option maxRecDepth 100000 in
theorem bits_no (l : Int) (w : World) (h : l < 1 ∨ 15 < l) : Calls Tryd.prog 15 #[.int .i64 l] w fun e w' => e = .returned (.bool false) ∧ w' = w := by
  rcases h with h | h
  · go_enter Tryd.func15, Tryd.ntmps15
    go_wp2_with fail
    go_ret
    exact ⟨by simp, rfl⟩
  · have h1 : 1 ≤ l := by omega
    go_enter Tryd.func15, Tryd.ntmps15
    go_wp2_with fail
    go_ret
    exact ⟨by simp; omega, rfl⟩

set_option maxRecDepth 100000 in
set_option maxHeartbeats 2000000 in
theorem cmp_any (c : Nat) (v : Value) (ws : List Nat) (x y : Nat) (w : World) (hb : w.cell? ⟨c, 0, none⟩ = some v) (hv : NumsAt w v ws) (hx : x < ws.length) (hy : y < ws.length) (hl : ws.length ≤ 512) :
    Calls Tryd.prog 37 #[.int .i64 (x : Nat), .int .i64 (y : Nat), .pointer (some ⟨c, 0, none⟩)] w fun e w' => e = .returned (.int .i64 (cmpv (ws.getD x 0) (ws.getD y 0))) ∧ ∃ n, w' = w.drewN n := by
  obtain ⟨a, cp, rfl, hm, hc⟩ := hv
  obtain ⟨p, rfl, hpx⟩ := hc x hx
  obtain ⟨q, hq, hpy⟩ := hc y hy
  injection hq with hq
  subst hq
  have e1 : ws.getD x 0 = ws[x] := by simp [List.getD, hx]
  have e2 : ws.getD y 0 = ws[y] := by simp [List.getD, hy]
  rw [e1, e2]
  generalize ws[x] = u at *
  generalize ws[y] = z at *
  obtain ⟨n, hn⟩ : ∃ n, n = ws.length := ⟨_, rfl⟩
  rw [← hn] at hx hy hl hb
  have hxn : (x : Int) < (n : Int) := by omega
  have hyn : (y : Int) < (n : Int) := by omega
  clear hc e1 e2 hm hn
  go_enter Tryd.func37, Tryd.ntmps37
  go_wp2_with fail
  go_quiet ((go_at_call 38; exact Calls.quiet_of_same (compare_any _ _ _)))
  go_wp2_with fail
  go_ret
  exact ⟨rfl, _, rfl⟩

set_option maxRecDepth 100000 in
set_option maxHeartbeats 1000000 in
theorem stableFunc_any (g N cap : Nat) (rest : List Value) (cv : Value) (dom : Nat → Prop) (key : Nat → Nat) (w : World) (hC : CmpOK w g 37 cv dom key) (hN2 : N ≤ 4096) (hNc : N ≤ cap) (Z : List Nat) (hZ : Z.length = N) (hdom : ∀ z ∈ Z, dom z) (h : RowI w g Z rest) :
    Calls Tryd.prog 36 #[.slice (some ⟨g, 0, none⟩) N cap, .func (.func 37) #[] #[cv]] w fun e w' => e = .returned (.tuple #[]) ∧ ∃ Z', RowI w' g Z' rest ∧ Z'.Perm Z ∧ Srt key Z' ∧ Hid (w.grownBy w' (some g)) := by
  have HS := Lib.hid (stable_any g N cap rest _ rfl cv dom key w hC hN2 hNc Z hZ hdom h)
  clear hC hZ hdom h
  go_enter Tryd.func36, Tryd.ntmps36
  go_wp2_with fail
  refine HS.out.mono ?_
  rintro e w1 ⟨rfl, Z', h1, h2, h3, h4⟩
  have H1 := Lib.hid h1
  have H2 := Lib.hid h2
  have H3 := Lib.hid h3
  clear h1 h2 h3
  simp only []
  go_wp2_with fail
  go_end0
  exact ⟨rfl, Z', H1.out, H2.out, H3.out, h4⟩
end Go.Proofs.YtidmmcgnghdfdaaDoor
