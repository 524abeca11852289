/- Whether a text is a name; where an extent is. -/
import Derived.Test.YtihohljhjdmamaaGreatKept1
import Derived.Test.YtihohljhjdmamaaGreatKit4
namespace Go.Proofs.YtihohljhjdmamaaGreat
open Go.RowKit
set_option linter.unusedVariables false

set_option maxRecDepth 100000 in
set_option maxHeartbeats 1000000 in
theorem index_str (g cap : Nat) (s : ByteArray) (w : World) (hc : w.cell? ⟨g, 0, none⟩ = some (.string s)) :
    Calls Tryz.prog 91 #[.slice (some ⟨g, 0, none⟩) 1 cap, .func (.func 79) #[] #[]] w fun e w' => e = .returned (.int .i64 (if isNm s = true then -1 else 0)) ∧ w' = w := by
  have H1 := named1_any s w
  obtain ⟨B, hB⟩ : ∃ B, B = isNm s := ⟨_, rfl⟩
  rw [← hB] at H1 ⊢
  clear hB
  cases B
  · have H := Lib.hid H1
    clear H1
    go_enter Tryz.func91, Tryz.ntmps91
    go_wp2
    go_loop [8] (fun iv => iv = .int .i64 ((0 : Nat) : Nat)) (fun iv => 1 - (intOf iv).toNat)
    case atStart => rfl
    case round =>
      subst hrel
      go_wp2_with fail
      refine H.out.mono ?_
      rintro e w' ⟨rfl, rfl⟩
      simp only []
      go_wp2_with fail
      go_ret
      exact ⟨by simp, rfl⟩
  · have H := Lib.hid H1
    clear H1
    go_enter Tryz.func91, Tryz.ntmps91
    go_wp2
    go_loop [8] (fun iv => ∃ i : Nat, iv = .int .i64 (i : Nat) ∧ i ≤ 1) (fun iv => 1 - (intOf iv).toNat)
    case atStart => exact ⟨0, rfl, by omega⟩
    case round =>
      obtain ⟨i, rfl, hi⟩ := hrel
      by_cases hlt : i < 1
      · obtain rfl : i = 0 := by omega
        go_wp2_with fail
        refine H.out.mono ?_
        rintro e w' ⟨rfl, rfl⟩
        simp only [Bool.not_true]
        go_wp2_with fail
        go_round
        case rel => exact ⟨1, rfl, by omega⟩
        case measure => simp [intOf]
      · obtain rfl : i = 1 := by omega
        go_wp2_with fail
        go_ret
        exact ⟨by simp, rfl⟩
set_option maxRecDepth 100000 in
theorem contains_str (g cap : Nat) (s : ByteArray) (w : World) (hc : w.cell? ⟨g, 0, none⟩ = some (.string s)) :
    Calls Tryz.prog 78 #[.slice (some ⟨g, 0, none⟩) 1 cap, .func (.func 79) #[] #[]] w fun e w' => e = .returned (.bool (!isNm s)) ∧ w' = w := by
  have H1 := index_str g cap s w hc
  obtain ⟨B, hB⟩ : ∃ B, B = isNm s := ⟨_, rfl⟩
  rw [← hB] at H1 ⊢
  clear hB
  have H : Hid (Calls Tryz.prog 91 #[.slice (some ⟨g, 0, none⟩) 1 cap, .func (.func 79) #[] #[]] w fun e w' => e = .returned (.int .i64 (if B = true then -1 else 0)) ∧ w' = w) := H1
  clear H1
  cases B
  all_goals
    go_enter Tryz.func78, Tryz.ntmps78
    go_wp2_with fail
    refine H.out.mono ?_
    rintro e w' ⟨rfl, rfl⟩
    simp only [if_true, Bool.false_eq_true, if_false]
    go_wp2_with fail
    go_ret
    exact ⟨by simp, rfl⟩
set_option maxRecDepth 100000 in
theorem named_any (g cap : Nat) (s : ByteArray) (w : World) (hc : w.cell? ⟨g, 0, none⟩ = some (.string s)) :
    Calls Tryz.prog 58 #[.slice (some ⟨g, 0, none⟩) 1 cap] w fun e w' => e = .returned (.bool (isNm s)) ∧ w' = w := by
  have H := Lib.hid (contains_str g cap s w hc)
  go_enter Tryz.func58, Tryz.ntmps58
  go_wp2_with fail
  refine H.out.mono ?_
  rintro e w' ⟨rfl, rfl⟩
  simp only []
  go_wp2_with fail
  go_ret
  exact ⟨by simp, rfl⟩

/-- where a name would stand beside "x"; whether it is that -/
def fI (x y : ByteArray) : Nat := if cmpS x y < 0 then 1 else 0
def isA (x y : ByteArray) : Bool := cmpS x y == 0
theorem isA_self (x : ByteArray) : isA x x = true := by unfold isA; rw [cmpS_self]; rfl
theorem isA_eq {x y : ByteArray} (h : isA x y = true) : x = y := cmpS_eq (by unfold isA at h; simpa using h)
theorem fI_of {x y : ByteArray} (h : isA x y = true) : fI x y = 0 := by
  unfold isA at h
  unfold fI
  rw [if_neg (by have h2 : cmpS x y = 0 := by simpa using h
                 omega)]
set_option maxRecDepth 100000 in
set_option maxHeartbeats 1000000 in
theorem search_one (g cap : Nat) (x d y : ByteArray) (w : World) (c0 : w.cell? ⟨g, 0, none⟩ = some (.string x)) (c1 : w.cell? ⟨g, 1, none⟩ = some (.string d)) :
    Calls Tryz.prog 42 #[.slice (some ⟨g, 0, none⟩) 1 cap, .string y, .func (.func 43) #[] #[]] w fun e w' => e = .returned (.tuple #[.int .i64 (fI x y : Nat), .bool (isA x y)]) ∧ Hid (w.grownBy w' none) := by
  have H1 := Lib.hid (fun w => find1_any x d y w)
  obtain ⟨n, hn⟩ : ∃ n, n = fI x y := ⟨_, rfl⟩
  obtain ⟨b, hb⟩ : ∃ b, b = isA x y := ⟨_, rfl⟩
  rw [← hn, ← hb]
  unfold fI at hn
  unfold isA at hb
  obtain ⟨c, hc⟩ : ∃ c, c = cmpS x y := ⟨_, rfl⟩
  rw [← hc] at H1 hn hb
  have HN := Lib.hid hn
  have HB := Lib.hid hb
  clear hn hb
  have C0 := Lib.hid c0
  have C1 := Lib.hid c1
  clear hc c0 c1
  go_enter Tryz.func42, Tryz.ntmps42
  go_wp2
  go_loopw [9, 10] (fun iv jv wr => ∃ i j : Nat, iv = .int .i64 (i : Nat) ∧ jv = .int .i64 (j : Nat) ∧ (i = 0 ∧ j = 1 ∨ i = j ∧ (c < 0 ∧ i = 1 ∨ ¬ c < 0 ∧ i = 0)) ∧ Hid (w.grownBy wr none)) (fun iv jv _ => (intOf jv).toNat - (intOf iv).toNat)
  case atStart => exact ⟨0, 1, rfl, rfl, .inl ⟨rfl, rfl⟩, grown_self _ _⟩
  case round =>
    obtain ⟨i, j, rfl, rfl, hij, hg⟩ := hrel
    rcases hij with ⟨rfl, rfl⟩ | ⟨rfl, hij⟩
    · have a0 := hg.out.cell C0.out (by simp)
      have a1 := hg.out.cell C1.out (by simp)
      go_wp2_with fail
      refine (H1.out _).mono ?_
      rintro e w2 ⟨rfl, hg2⟩
      simp only []
      have HG := Lib.hid (grown_trans hg.out hg2.out)
      clear a0 a1 hg hg2
      by_cases hc : c < 0
      · go_wp2_with fail
        go_roundw
        case rel => exact ⟨1, 1, rfl, rfl, .inr ⟨rfl, .inl ⟨hc, rfl⟩⟩, HG⟩
        case measure => simp [intOf]
      · have hc' : 0 ≤ c := by omega
        go_wp2_with fail
        go_roundw
        case rel => exact ⟨0, 0, rfl, rfl, .inr ⟨rfl, .inr ⟨hc, rfl⟩⟩, HG⟩
        case measure => simp [intOf]
    · rcases hij with ⟨hc, rfl⟩ | ⟨hc, rfl⟩
      · go_wp2_with fail
        go_ret2
        exact ⟨by rw [HN.out, if_pos hc, HB.out, show (c == 0) = false by simp; omega]; rfl, hg⟩
      · have a0 := hg.out.cell C0.out (by simp)
        have a1 := hg.out.cell C1.out (by simp)
        have hc' : 0 ≤ c := by omega
        go_wp2_with fail
        refine (H1.out _).mono ?_
        rintro e w2 ⟨rfl, hg2⟩
        simp only []
        have HG := Lib.hid (grown_trans hg.out hg2.out)
        clear a0 a1 hg hg2
        go_wp2_with fail
        go_ret2
        exact ⟨by rw [HN.out, if_neg (by omega), HB.out]; rfl, HG⟩
set_option maxRecDepth 100000 in
theorem search_none (y : ByteArray) (v : Value) (hv : ∃ a c, v = .slice a 0 c) (w : World) :
    Calls Tryz.prog 42 #[v, .string y, .func (.func 43) #[] #[]] w fun e w' => e = .returned (.tuple #[.int .i64 0, .bool false]) ∧ w' = w := by
  obtain ⟨a, c, rfl⟩ := hv
  go_enter Tryz.func42, Tryz.ntmps42
  go_wp2
  go_loop [9, 10] (fun iv jv => iv = .int .i64 0 ∧ jv = .int .i64 0) (fun iv _ => 1 - (intOf iv).toNat)
  case atStart => exact ⟨rfl, rfl⟩
  case round =>
    obtain ⟨rfl, rfl⟩ := hrel
    go_wp2_with fail
    go_ret2
    exact ⟨rfl, rfl⟩
set_option maxRecDepth 100000 in
theorem find_one (g cap : Nat) (x d y : ByteArray) (w : World) (c0 : w.cell? ⟨g, 0, none⟩ = some (.string x)) (c1 : w.cell? ⟨g, 1, none⟩ = some (.string d)) :
    Calls Tryz.prog 17 #[.slice (some ⟨g, 0, none⟩) 1 cap, .string y] w fun e w' => e = .returned (.tuple #[.int .i64 (fI x y : Nat), .bool (isA x y)]) ∧ Hid (w.grownBy w' none) := by
  have H := Lib.hid (search_one g cap x d y w c0 c1)
  clear c0 c1
  go_enter Tryz.func17, Tryz.ntmps17
  go_wp2_with fail
  refine H.out.mono ?_
  rintro e w' ⟨rfl, hg⟩
  simp only []
  go_wp2_with fail
  go_ret2
  exact ⟨rfl, hg⟩
set_option maxRecDepth 100000 in
theorem find_none (y : ByteArray) (v : Value) (hv : ∃ a c, v = .slice a 0 c) (w : World) :
    Calls Tryz.prog 17 #[v, .string y] w fun e w' => e = .returned (.tuple #[.int .i64 0, .bool false]) ∧ w' = w := by
  have H := Lib.hid (search_none y v hv w)
  clear hv
  go_enter Tryz.func17, Tryz.ntmps17
  go_wp2_with fail
  refine H.out.mono ?_
  rintro e w' ⟨rfl, rfl⟩
  simp only []
  go_wp2_with fail
  go_ret2
  exact ⟨rfl, rfl⟩
end Go.Proofs.YtihohljhjdmamaaGreat
