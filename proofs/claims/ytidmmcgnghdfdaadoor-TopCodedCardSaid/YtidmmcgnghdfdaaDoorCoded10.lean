/- table's Add. -/
import Derived.Test.YtidmmcgnghdfdaaDoorCoded9
namespace Go.Proofs.YtidmmcgnghdfdaaDoor
open Go.RowKit SortPlain PackPlain CanonPlain BitsPlain
set_option linter.unusedVariables false

theorem add_grown (B b : Nat) (w0 : World) (hB : B = w0.heap.size) (l : List Bool) (x width : Nat) (W : World) (hl : IsWriter W B b l) (hx : x < 65536) (hw : width ≤ 15) (hlen : l.length ≤ 1073741000) (hg : w0.grownBy W none) :
    Calls Tryd.prog 25 #[.pointer (some ⟨b, 0, none⟩), .int .u64 (x : Nat), .int .i64 (width : Nat)] W fun e w' => e = .returned (.tuple #[]) ∧ Hid (IsWriter w' B b (l ++ bitsOf x width)) ∧ Hid (w0.grownBy w' none) := by
  refine (add_any B b l x width W hl (by omega) (by omega) (by omega) (by rw [hB]; exact hg.size)).mono ?_
  rintro e w' ⟨rfl, h1, h2, _⟩
  exact ⟨rfl, h1, grown_chain hB hg h2⟩

set_option maxRecDepth 100000 in
set_option maxHeartbeats 4000000 in
theorem tadd_any (B b : Nat) (vx : Value) (X : List Nat) (m : List Bool) (w0 w : World) (hB : B = w0.heap.size) (hx : IntsAt w0 vx X) (hp : 0 < X.length) (hXl : X.length ≤ 512) (hle : ∀ s, X.getD s 0 ≤ 15) (hw : IsWriter w B b m) (hg : w0.grownBy w none) (hml : m.length ≤ 1048576) :
    Calls Tryd.prog 21 #[.pointer (some ⟨b, 0, none⟩), vx] w fun e w' => e = .returned (.tuple #[]) ∧ Hid (IsWriter w' B b (m ++ tabBits X)) ∧ Hid (w0.grownBy w' none) := by
  rw [tabBits_eq]
  have HS : Hid (∀ i, i ≤ X.length → (tabTo X i).length ≤ 20000) := fun i hi => by
    have h1 := sizeTo_le X hle i
    rw [tabTo_length]
    omega
  have HLe : Hid (∀ i, X.getD i 0 ≤ 15) := hle
  have HAh : Hid (∀ i, prv X i ≤ 15) := prv_le X hle
  obtain ⟨ax, cx, rfl, hcx⟩ := lens_at hx
  have HV := Lib.hid hcx
  obtain ⟨g, rfl, c0⟩ := hcx w hg 0 hp
  have HA : Hid (∀ (x k : Nat) (l : List Bool) (W : World), IsWriter W B b l → x < 65536 → k ≤ 15 → l.length ≤ 1073741000 → w0.grownBy W none → Calls Tryd.prog 25 #[.pointer (some ⟨b, 0, none⟩), .int .u64 (x : Nat), .int .i64 (k : Nat)] W fun e w' => e = .returned (.tuple #[]) ∧ Hid (IsWriter w' B b (l ++ bitsOf x k)) ∧ Hid (w0.grownBy w' none)) := fun x k l W h1 h2 h3 h4 h5 => add_grown B b w0 hB l x k W h1 h2 h3 h4 h5
  have HA2 : Hid (∀ (l : List Bool) (W : World), IsWriter W B b l → l.length ≤ 1073741000 → w0.grownBy W none → Calls Tryd.prog 25 #[.pointer (some ⟨b, 0, none⟩), .int .u64 2, .int .i64 2] W fun e w' => e = .returned (.tuple #[]) ∧ Hid (IsWriter w' B b (l ++ [true, false])) ∧ Hid (w0.grownBy w' none)) := fun l W h1 h2 h3 => HA.out 2 2 l W h1 (by omega) (by omega) h2 h3
  have HA3 : Hid (∀ (l : List Bool) (W : World), IsWriter W B b l → l.length ≤ 1073741000 → w0.grownBy W none → Calls Tryd.prog 25 #[.pointer (some ⟨b, 0, none⟩), .int .u64 3, .int .i64 2] W fun e w' => e = .returned (.tuple #[]) ∧ Hid (IsWriter w' B b (l ++ [true, true])) ∧ Hid (w0.grownBy w' none)) := fun l W h1 h2 h3 => HA.out 3 2 l W h1 (by omega) (by omega) h2 h3
  have HA0 : Hid (∀ (l : List Bool) (W : World), IsWriter W B b l → l.length ≤ 1073741000 → w0.grownBy W none → Calls Tryd.prog 25 #[.pointer (some ⟨b, 0, none⟩), .int .u64 0, .int .i64 1] W fun e w' => e = .returned (.tuple #[]) ∧ Hid (IsWriter w' B b (l ++ [false])) ∧ Hid (w0.grownBy w' none)) := fun l W h1 h2 h3 => HA.out 0 1 l W h1 (by omega) (by omega) h2 h3
  have HA4 : Hid (∀ (x : Nat) (W : World), x ≤ 15 → IsWriter W B b m → w0.grownBy W none → Calls Tryd.prog 25 #[.pointer (some ⟨b, 0, none⟩), .int .u64 (x : Nat), .int .i64 4] W fun e w' => e = .returned (.tuple #[]) ∧ Hid (IsWriter w' B b (m ++ bitsOf x 4)) ∧ Hid (w0.grownBy w' none)) := fun x W h0 h1 h3 => HA.out x 4 m W h1 (by omega) (by omega) (by omega) h3
  have Hw := Lib.hid hw
  have Hg := Lib.hid hg
  clear hx hcx hle hw HA hg
  obtain ⟨n0, hn0⟩ : ∃ n0, n0 = X.length := ⟨_, rfl⟩
  rw [← hn0] at HS HV hp hXl ⊢
  clear hn0
  have hni : (n0 : Int) ≤ 512 := by omega
  have h0l := HLe.out 0
  have Hx0 := Lib.hid (prv_zero X)
  have Ht0 : Hid (tabTo X 0 = bitsOf (X.getD 0 0) 4) := rfl
  generalize X.getD 0 0 = x0 at c0 h0l Hx0 Ht0
  have hw0 : IntKind.u64.wrap (x0 : Int) = (x0 : Int) := wrap64u_in _ (by omega) (by omega)
  go_enter Tryd.func21, Tryd.ntmps21
  go_wp2_with (first
    | (go_at_call 25; (with_reducible refine (HA4.out x0 _ h0l Hw.out Hg.out).mono ?_); rintro e w1 ⟨rfl, hw1, hg1⟩)
    | fail)
  rw [← Ht0.out] at hw1
  clear c0 Hw Hg
  go_loopw [4, 16] (fun av iv wr => ∃ (i a : Nat), iv = .int .i64 (i : Nat) ∧ i ≤ n0 ∧ av = .int .i64 (a : Nat) ∧ Hid (a = prv X i) ∧ Hid (IsWriter wr B b (m ++ tabTo X i)) ∧ Hid (w0.grownBy wr none)) (fun _ iv _ => n0 - (intOf iv).toNat)
  case atStart => exact ⟨0, x0, rfl, Nat.zero_le _, rfl, Hx0.out.symm, hw1, hg1⟩
  case round =>
    clear hw1 hg1
    obtain ⟨i, a, rfl, hi, rfl, Ha, hwr, hg⟩ := hrel
    by_cases hlt : i < n0
    · obtain ⟨g', hg', c1⟩ := HV.out wr hg.out i hlt
      injection hg' with hg'
      injection hg' with hg'
      subst hg'
      have hl := HLe.out i
      have ha := HAh.out i
      rw [← Ha.out] at ha
      have Hn : Hid (tabTo X (i + 1) = tabTo X i ++ (steps a (X.getD i 0) ++ [false])) := by show _ = _; rw [Ha.out]; rfl
      have Hah := Lib.hid (prv_succ X i)
      have hSl := HS.out i hi
      obtain ⟨P, hP⟩ : ∃ P, P = m ++ tabTo X i := ⟨_, rfl⟩
      have hPl : P.length ≤ 1070000 := by rw [hP, List.length_append]; omega
      have HP := Lib.hid hP
      rw [← hP] at hwr
      generalize X.getD i 0 = l at c1 hl Hn Hah
      have hii : (i : Int) < (n0 : Int) := by omega
      clear hP hSl
      go_wp2_with fail
      go_loopw [4] (fun av wq => ∃ (c k : Nat), av = .int .i64 (c : Nat) ∧ c = a + k ∧ k ≤ l - a ∧ Hid (IsWriter wq B b (P ++ ups false k)) ∧ Hid (w0.grownBy wq none)) (fun av _ => l - (intOf av).toNat)
      case atStart => exact ⟨a, 0, rfl, rfl, Nat.zero_le _, by show IsWriter _ _ _ _; simp only [ups, List.append_nil]; exact hwr.out, hg⟩
      case round =>
        clear hwr hg c1
        obtain ⟨c, k, rfl, hck, hk, hwr, hg⟩ := hrel
        have Hck := Lib.hid hck
        have hkl : (P ++ ups false k).length ≤ 1073741000 := by rw [List.length_append, ups_length]; omega
        have hc15 : (c : Int) ≤ 15 ∨ (c : Int) ≤ 30 := by omega
        have hc30 : (c : Int) ≤ 30 := by omega
        clear hck hc15
        by_cases hcl : c < l
        · have hcl' : (c : Int) < (l : Int) := by omega
          go_wp2_with (first
            | (go_at_call 25; (with_reducible refine (HA2.out _ _ hwr.out hkl hg.out).mono ?_); rintro e w2 ⟨rfl, hw2, hg2⟩)
            | fail)
          refine ⟨⟨c + 1, k + 1, by rw [Int.natCast_add]; rfl, by have := Hck.out; omega, by have := Hck.out; omega, ?_, hg2⟩, by simp [intOf]; omega⟩
          show IsWriter _ _ _ _
          rw [ups_snoc, ← List.append_assoc]
          exact hw2.out
        · have hcl' : ¬ (c : Int) < (l : Int) := by omega
          have hkk : k = l - a := by have := Hck.out; omega
          have Hkk := Lib.hid hkk
          obtain ⟨P2, hP2⟩ : ∃ P2, P2 = P ++ ups false k := ⟨_, rfl⟩
          rw [← hP2] at hwr hkl
          have hP2l : P2.length ≤ 1071000 := by rw [hP2, List.length_append, ups_length]; omega
          have HP2 := Lib.hid hP2
          clear hkk hP2 hkl
          go_wp2_with fail
          go_loopw [4] (fun av wq => ∃ (c2 k2 : Nat), av = .int .i64 (c2 : Nat) ∧ c2 + k2 = c ∧ k2 ≤ a - l ∧ Hid (IsWriter wq B b (P2 ++ ups true k2)) ∧ Hid (w0.grownBy wq none)) (fun av _ => (intOf av).toNat)
          case atStart => exact ⟨c, 0, rfl, rfl, Nat.zero_le _, by show IsWriter _ _ _ _; simp only [ups, List.append_nil]; exact hwr.out, hg⟩
          case round =>
            clear hwr hg
            obtain ⟨c2, k2, rfl, hck2, hk2, hwr, hg⟩ := hrel
            have hkl : (P2 ++ ups true k2).length ≤ 1073741000 := by rw [List.length_append, ups_length]; omega
            have hc30 : (c2 : Int) ≤ 30 := by omega
            have Hck2 := Lib.hid hck2
            clear hck2
            by_cases hcl2 : l < c2
            · have hcl2' : (l : Int) < (c2 : Int) := by omega
              have hc0 : (1 : Int) ≤ (c2 : Int) := by omega
              go_wp2_with (first
                | (go_at_call 25; (with_reducible refine (HA3.out _ _ hwr.out hkl hg.out).mono ?_); rintro e w2 ⟨rfl, hw2, hg2⟩)
                | fail)
              refine ⟨⟨c2 - 1, k2 + 1, by congr 1; omega, by have := Hck2.out; omega, by have := Hck2.out; have := Hck.out; have := Hkk.out; omega, ?_, hg2⟩, by simp [intOf]; omega⟩
              show IsWriter _ _ _ _
              rw [ups_snoc, ← List.append_assoc]
              exact hw2.out
            · have hcl2' : ¬ (l : Int) < (c2 : Int) := by omega
              have hk3 : k2 = a - l ∧ c2 = l := by have := Hck2.out; have := Hck.out; have := Hkk.out; omega
              have Hk3 := Lib.hid hk3
              clear hk3
              go_wp2_with (first
                | (go_at_call 25; (with_reducible refine (HA0.out _ _ hwr.out hkl hg.out).mono ?_); rintro e w2 ⟨rfl, hw2, hg2⟩)
                | fail)
              refine ⟨⟨i + 1, c2, by rw [Int.natCast_add]; rfl, by omega, rfl, ?_, ?_, hg2⟩, by simp [intOf]; omega⟩
              · show _ = _
                rw [Hah.out, Hk3.out.2]
              · show IsWriter _ _ _ _
                rw [Hn.out, ← List.append_assoc, ← HP.out, ← List.append_assoc]
                have h1 := hw2.out
                rw [HP2.out, Hkk.out, Hk3.out.1, List.append_assoc P] at h1
                exact h1
    · obtain rfl : i = n0 := by omega
      go_wp2_with fail
      go_end0
      exact ⟨rfl, hwr, hg⟩
end Go.Proofs.YtidmmcgnghdfdaaDoor
