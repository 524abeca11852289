/- canon.open, Code and find. -/
import Derived.Test.YtidmmcgnghdfdaaDoorCoded4
namespace Go.Proofs.YtidmmcgnghdfdaaDoor
open Go.RowKit SortPlain PackPlain CanonPlain
set_option linter.unusedVariables false

set_option maxRecDepth 100000 in
set_option maxHeartbeats 2000000 in
theorem open_any (vx : Value) (X : List Nat) (w : World) (hx : IntsAt w vx X) (hok : CodeOk X) :
    Calls Tryd.prog 23 #[vx] w fun e w' => ∃ b, e = .returned (.tuple #[.pointer (some ⟨b, 0, none⟩), .int .i64 0]) ∧ Hid (BookAt w' b X vx) ∧ Hid (w.grownBy w' none) := by
  have HC := Lib.hid (check_any vx X w hx hok)
  have HO := Lib.hid (of_any vx X w hx hok)
  clear hx hok
  go_enter Tryd.func23, Tryd.ntmps23
  go_wp2_with (first
    | (go_at_call 41; refine HC.out.mono ?_; rintro e w1 ⟨rfl, hw1⟩; obtain rfl : w = w1 := hw1.symm)
    | (go_at_call 42; refine HO.out.mono ?_; rintro e w2 ⟨b, rfl, hb, hg⟩)
    | fail)
  go_ret2
  exact ⟨b, rfl, hb, hg⟩

set_option maxRecDepth 100000 in
set_option maxHeartbeats 2000000 in
theorem code_any (b : Nat) (vx : Value) (X : List Nat) (i : Nat) (w : World) (hb : BookAt w b X vx) (hx : IntsAt w vx X) (hi : i < X.length) (hle : ∀ s, X.getD s 0 ≤ 15) (h1 : 1 ≤ X.getD i 0) (hl : X.length ≤ 512) :
    Calls Tryd.prog 26 #[.pointer (some ⟨b, 0, none⟩), .int .i64 (i : Nat)] w fun e w' => e = .returned (.tuple #[.int .u64 (codeAt X i : Nat), .int .i64 (X.getD i 0 : Nat)]) ∧ Hid (w.grownBy w' none) := by
  obtain ⟨sv, cv, hrow, hs, hc⟩ := hb
  obtain ⟨ax, cx, rfl, _, hcx⟩ := hx
  obtain ⟨ac, cc, rfl, _, hcc⟩ := hc
  have hcl : (codesOf X).length = X.length := codesTo_length X 16 0
  rw [hcl] at hrow
  obtain ⟨gx, rfl, hx1⟩ := hcx i hi
  obtain ⟨xc, rfl, hc1⟩ := hcc i (by rw [hcl]; exact hi)
  have hcg := codesOf_get X hle i hi h1
  rw [List.getElem?_eq_getElem (by rw [hcl]; exact hi)] at hcg
  injection hcg with hcg
  have e : X.getD i 0 = X[i] := by simp [List.getD, hi]
  rw [hcg] at hc1
  rw [← e] at hx1
  have c33 := row_cell hrow _ _ (bookRow_codes _ _ _ _ _)
  have c34 := row_cell hrow _ _ (bookRow_lens _ _ _ _ _)
  clear hcg e hcl hrow hs hcx hcc h1 hle
  generalize X.getD i 0 = L at *
  generalize codeAt X i = C at *
  generalize X.length = n0 at *
  have hii : (i : Int) < (n0 : Int) := by omega
  go_enter Tryd.func26, Tryd.ntmps26
  go_wp2_with fail
  go_quiet (fail)
  go_wp2_with fail
  go_ret2
  exact ⟨rfl, grown_drewN _ _ _⟩

set_option maxRecDepth 100000 in
set_option maxHeartbeats 2000000 in
/-- no symbol has the code -/
theorem find_no (b : Nat) (vx : Value) (X : List Nat) (c l a : Nat) (w : World) (hb : BookAt w b X vx) (h1 : 1 ≤ l) (h2 : l ≤ 15) (hc : gc X l ≤ c) (hc2 : c ≤ 65536) :
    Calls Tryd.prog 47 #[.pointer (some ⟨b, 0, none⟩), .int .u64 (c : Nat), .int .i64 (l : Nat), .int .i64 (a : Nat)] w fun e w' => e = .returned (.int .i64 (-1)) ∧ w' = w := by
  obtain ⟨sv, cv, hrow, hs, hv⟩ := hb
  have cf : w.cell? ⟨b, 16 + l, none⟩ = some (.int .u64 (fc X l : Nat)) := by
    rw [row_cell hrow _ _ (bookRow_first _ _ _ _ _ l (by omega))]
    unfold fstT
    rw [if_pos (by omega)]
  have cn : w.cell? ⟨b, l, none⟩ = some (.int .i64 (X.count l : Nat)) := by
    rw [row_cell hrow _ _ (bookRow_count _ _ _ _ _ l (by omega))]
    unfold cntT
    rw [if_pos (by omega)]
  have hg := fc_gc X l h1
  generalize fc X l = F at *
  generalize X.count l = N at *
  rw [hg] at hc
  have hF : (F : Int) ≤ (c : Int) := by omega
  have hw1 : IntKind.u64.wrap ((c : Int) - (F : Int)) = ((c - F : Nat) : Int) := by rw [wrap64u_in _ (by omega) (by omega)]; omega
  have hw2 : IntKind.u64.wrap (N : Int) = (N : Int) := wrap64u_in _ (by omega) (by omega)
  have hge : (N : Int) ≤ ((c - F : Nat) : Int) := by omega
  have hl1 : (1 : Int) ≤ (l : Int) := by omega
  have hl2 : (l : Int) ≤ 15 := by omega
  generalize hcf : c - F = cF at *
  clear hg hs hv hrow hc hcf
  go_enter Tryd.func47, Tryd.ntmps47
  go_wp2_with fail
  go_ret
  exact ⟨rfl, rfl⟩

set_option maxRecDepth 100000 in
set_option maxHeartbeats 2000000 in
/-- the k-th symbol of the codes of l bits -/
theorem find_yes (b : Nat) (vx : Value) (X : List Nat) (c k l a i : Nat) (w : World) (hc : c = fc X l + k) (hb : BookAt w b X vx) (h1 : 1 ≤ l) (h2 : l ≤ 15) (hk : k < X.count l) (hX : X.length ≤ 512) (hF : fc X l ≤ 65536) (ha : a ≤ 512) (hs : (syms X 15)[a + k]? = some i) :
    Calls Tryd.prog 47 #[.pointer (some ⟨b, 0, none⟩), .int .u64 (c : Nat), .int .i64 (l : Nat), .int .i64 (a : Nat)] w fun e w' => e = .returned (.int .i64 (i : Nat)) ∧ w' = w := by
  obtain ⟨sv, cv, hrow, hv, _⟩ := hb
  have cf : w.cell? ⟨b, 16 + l, none⟩ = some (.int .u64 (fc X l : Nat)) := by
    rw [row_cell hrow _ _ (bookRow_first _ _ _ _ _ l (by omega))]
    unfold fstT
    rw [if_pos (by omega)]
  have cn : w.cell? ⟨b, l, none⟩ = some (.int .i64 (X.count l : Nat)) := by
    rw [row_cell hrow _ _ (bookRow_count _ _ _ _ _ l (by omega))]
    unfold cntT
    rw [if_pos (by omega)]
  have cs := row_cell hrow _ _ (bookRow_syms _ _ _ _ _)
  obtain ⟨asv, cap, rfl, _, hcv⟩ := hv
  obtain ⟨hlt, hge⟩ := List.getElem?_eq_some_iff.1 hs
  obtain ⟨g, rfl, cv2⟩ := hcv (a + k) hlt
  rw [hge] at cv2
  have hcl : X.count l ≤ X.length := List.count_le_length
  have hsl := syms_le X 15
  clear hge hcv hs hrow
  generalize fc X l = F at *
  generalize X.count l = N at *
  generalize (syms X 15).length = S at *
  have hFc : (F : Int) ≤ (c : Int) := by omega
  have hw1 : IntKind.u64.wrap ((c : Int) - (F : Int)) = (k : Int) := by rw [wrap64u_in _ (by omega) (by omega)]; omega
  have hw2 : IntKind.u64.wrap (N : Int) = (N : Int) := wrap64u_in _ (by omega) (by omega)
  have hw3 : IntKind.i64.wrap (k : Int) = (k : Int) := IntWalk.i64_in _ (by omega)
  have hw4 : IntKind.i64.wrap ((a : Int) + (k : Int)) = (a : Int) + (k : Int) := IntWalk.i64_in _ (by omega)
  have hkN : (k : Int) < (N : Int) := by omega
  have hl1 : (1 : Int) ≤ (l : Int) := by omega
  have hl2 : (l : Int) ≤ 15 := by omega
  have hak : (a : Int) + (k : Int) < (S : Int) := by omega
  clear hc
  go_enter Tryd.func47, Tryd.ntmps47
  go_wp2_with fail
  go_ret
  exact ⟨rfl, rfl⟩
end Go.Proofs.YtidmmcgnghdfdaaDoor
