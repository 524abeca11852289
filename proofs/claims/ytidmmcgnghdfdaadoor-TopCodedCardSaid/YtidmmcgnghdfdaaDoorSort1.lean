/- What the library's swapRange and rotate do to a row of ints. -/
import Derived.Test.YtidmmcgnghdfdaaDoorRows
import Derived.Test.YtidmmcgnghdfdaaDoorKit4
import Derived.Test.YtidmmcgnghdfdaaDoorSortPlain
import Derived.Handy
import Derived.BigRegion
import Derived.Deep.QuietTactic
import Derived.BigQuiet
import Derived.Outline
namespace Go.Proofs.YtidmmcgnghdfdaaDoor
open Go.RowKit SortPlain
set_option linter.unusedVariables false

def icells (l : List Nat) : List Value := l.map fun n => .int .i64 (n : Nat)
theorem icells_length (l : List Nat) : (icells l).length = l.length := by simp [icells]
theorem icells_append (l m : List Nat) : icells (l ++ m) = icells l ++ icells m := by simp [icells]
theorem icells_one (l : List Nat) : ∀ v ∈ icells l, v.oneCell' = true := by
  intro v hv
  obtain ⟨b, _, rfl⟩ := List.mem_map.1 hv
  rfl
/-- block g holds the ints Z, and behind them the rest -/
def RowI (w : World) (g : Nat) (Z : List Nat) (rest : List Value) : Prop := w.heap[g]? = some (.cells (icells Z ++ rest).toArray 3 (0, 0))
theorem RowI.kept {w w' : World} {g : Nat} {Z : List Nat} {rest : List Value} {q : Option Nat} (h : RowI w g Z rest) (hg : w.grownBy w' q) (hq : q ≠ some g) : RowI w' g Z rest := row_kept h hg hq
theorem RowI.cell {w : World} {g : Nat} {Z : List Nat} {rest : List Value} (h : RowI w g Z rest) {i x : Nat} (hx : Z[i]? = some x) : w.cell? ⟨g, i, none⟩ = some (.int .i64 (x : Nat)) := by
  obtain ⟨hi, rfl⟩ := List.getElem?_eq_some_iff.1 hx
  refine row_cell h i _ ?_
  rw [List.getElem?_toArray, List.getElem?_append_left (by rw [icells_length]; exact hi)]
  simp [icells, hi]
theorem RowI.free {w : World} {g : Nat} {Z : List Nat} {rest : List Value} (h : RowI w g Z rest) (i : Nat) : w.frozen? ⟨g, i, none⟩ = false := row_free h i
theorem RowI.set {w : World} {g : Nat} {Z : List Nat} {rest : List Value} (h : RowI w g Z rest) {i : Nat} (x : Nat) (hi : i < Z.length) : RowI (w.setCell ⟨g, i, none⟩ (.int .i64 (x : Nat))) g (Z.set i x) rest := by
  unfold RowI
  rw [heap_setCell_same w g i _ _ _ h]
  congr 1
  have e : ((icells Z ++ rest).toArray.setIfInBounds i (.int .i64 (x : Nat))) = (icells (Z.set i x) ++ rest).toArray := by
    apply Array.ext'
    rw [Array.toList_setIfInBounds]
    show (icells Z ++ rest).set i _ = icells (Z.set i x) ++ rest
    rw [List.set_append_left _ _ (by rw [icells_length]; exact hi)]
    simp [icells, List.map_set]
  rw [e]
theorem RowI.drewN {w : World} {g : Nat} {Z : List Nat} {rest : List Value} (h : RowI w g Z rest) (n : Nat) : RowI (w.drewN n) g Z rest := h
theorem RowI.drew {w : World} {g : Nat} {Z : List Nat} {rest : List Value} (h : RowI w g Z rest) : RowI w.drew g Z rest := h

/-- an exchange, in whatever spelling -/
theorem RowI.swap {w w' : World} {g : Nat} {P M Q : List Nat} {x y : Nat} {rest : List Value} (h : RowI w g (P ++ x :: (M ++ y :: Q)) rest) (p q : Nat) (hp : p = P.length) (hq : q = P.length + 1 + M.length)
    (hw : w'.heap = (((w.setCell ⟨g, p, none⟩ (.int .i64 (y : Nat))).setCell ⟨g, q, none⟩ (.int .i64 (x : Nat)))).heap) : RowI w' g (P ++ y :: (M ++ x :: Q)) rest := by
  subst hp hq
  have h1 := h.set (i := P.length) y (by simp)
  have h2 := h1.set (i := P.length + 1 + M.length) x (by simp; omega)
  rw [swap_mid] at h2
  unfold RowI at h2 ⊢
  rw [hw]
  exact h2
theorem RowI.swap' {w w' : World} {g : Nat} {P M Q : List Nat} {x y : Nat} {rest : List Value} (h : RowI w g (P ++ x :: (M ++ y :: Q)) rest) (p q : Nat) (hp : p = P.length) (hq : q = P.length + 1 + M.length)
    (hw : w'.heap = (((w.setCell ⟨g, q, none⟩ (.int .i64 (x : Nat))).setCell ⟨g, p, none⟩ (.int .i64 (y : Nat)))).heap) : RowI w' g (P ++ y :: (M ++ x :: Q)) rest := by
  subst hp hq
  have h1 := h.set (i := P.length + 1 + M.length) x (by simp; omega)
  have h2 := h1.set (i := P.length) y (by simp)
  rw [swap_mid'] at h2
  unfold RowI at h2 ⊢
  rw [hw]
  exact h2
theorem only_setCell {a w : World} {g : Nat} (h : a.grownBy w (some g)) (o : Nat) (u : Value) : a.grownBy (w.setCell ⟨g, o, none⟩ u) (some g) := grown_trans h (grown_setCell w ⟨g, o, none⟩ u)
theorem only_drew {a w : World} {r : Option Nat} (h : a.grownBy w r) : a.grownBy w.drew r := grown_trans h (grown_drew w r)
theorem only_drewN {a w : World} {r : Option Nat} (h : a.grownBy w r) (n : Nat) : a.grownBy (w.drewN n) r := grown_trans h (grown_drewN w n r)

set_option maxRecDepth 100000 in
set_option maxHeartbeats 4000000 in
theorem swapRange_any (g N cap : Nat) (rest : List Value) (P X M Y Q : List Nat) (a b n : Nat) (F : Value) (w : World) (ha : a = P.length) (hX : X.length = n) (hY : Y.length = n) (hb : b = a + n + M.length) (hN : N = b + n + Q.length) (hN2 : N ≤ 4096) (hNc : N ≤ cap)
    (h : RowI w g (P ++ X ++ M ++ Y ++ Q) rest) :
    Calls Tryd.prog 58 #[.slice (some ⟨g, 0, none⟩) N cap, .int .i64 (a : Nat), .int .i64 (b : Nat), .int .i64 (n : Nat), F] w fun e w' => e = .returned (.tuple #[]) ∧ RowI w' g (P ++ Y ++ M ++ X ++ Q) rest ∧ Hid (w.grownBy w' (some g)) := by
  have Ha := Lib.hid ha
  have HX := Lib.hid hX
  have HY := Lib.hid hY
  have Hb := Lib.hid hb
  have hbn : b + n ≤ N := by omega
  have han : a + n ≤ b := by omega
  have H := Lib.hid h
  clear ha hX hY hb hN h
  go_enter Tryd.func58, Tryd.ntmps58
  go_wp2_with fail
  go_loopw [10] (fun iv wr => ∃ i : Nat, iv = .int .i64 (i : Nat) ∧ i ≤ n ∧ Hid (RowI wr g (P ++ Y.take i ++ X.drop i ++ M ++ X.take i ++ Y.drop i ++ Q) rest) ∧ Hid (w.grownBy wr (some g))) (fun iv _ => n - (intOf iv).toNat)
  case atStart => exact ⟨0, rfl, Nat.zero_le _, by show RowI _ _ _ _; simpa using H.out, grown_self _ _⟩
  case round =>
    clear H
    obtain ⟨i, rfl, hi, hr, hg⟩ := hrel
    by_cases hlt : i < n
    · have hiX : i < X.length := by have := HX.out; omega
      have hiY : i < Y.length := by have := HY.out; omega
      have hrow := hr.out
      rw [List.drop_eq_getElem_cons hiX, List.drop_eq_getElem_cons hiY] at hrow
      have e : P ++ Y.take i ++ (X[i] :: X.drop (i + 1)) ++ M ++ X.take i ++ (Y[i] :: Y.drop (i + 1)) ++ Q = (P ++ Y.take i) ++ X[i] :: ((X.drop (i + 1) ++ M ++ X.take i) ++ Y[i] :: (Y.drop (i + 1) ++ Q)) := by simp only [List.append_assoc, List.cons_append]
      rw [e] at hrow
      have hl1 : (P ++ Y.take i).length = a + i := by rw [List.length_append, List.length_take, Ha.out]; omega
      have hl2 : (P ++ Y.take i).length + 1 + (X.drop (i + 1) ++ M ++ X.take i).length = b + i := by rw [hl1]; simp; have := Hb.out; have := HX.out; omega
      have c1 := hrow.cell (mid_at _ _ _)
      have c2 := hrow.cell (mid_at2 _ _ _ _ _)
      rw [hl1] at c1
      rw [hl2] at c2
      have f1 := hrow.free (a + i)
      have f2 := hrow.free (b + i)
      have e2 : (P ++ Y.take i) ++ Y[i] :: ((X.drop (i + 1) ++ M ++ X.take i) ++ X[i] :: (Y.drop (i + 1) ++ Q)) = P ++ Y.take (i + 1) ++ X.drop (i + 1) ++ M ++ X.take (i + 1) ++ Y.drop (i + 1) ++ Q := by
        rw [List.take_succ_eq_append_getElem hiX, List.take_succ_eq_append_getElem hiY]; simp only [List.append_assoc, List.cons_append, List.nil_append]
      have hnext : ∀ W : World, (W.heap = ((wr.setCell ⟨g, a + i, none⟩ (.int .i64 (Y[i] : Nat))).setCell ⟨g, b + i, none⟩ (.int .i64 (X[i] : Nat))).heap ∨ W.heap = ((wr.setCell ⟨g, b + i, none⟩ (.int .i64 (X[i] : Nat))).setCell ⟨g, a + i, none⟩ (.int .i64 (Y[i] : Nat))).heap) → RowI W g (P ++ Y.take (i + 1) ++ X.drop (i + 1) ++ M ++ X.take (i + 1) ++ Y.drop (i + 1) ++ Q) rest := fun W hW => by
        rw [← e2]
        rcases hW with hW | hW
        · exact hrow.swap (a + i) (b + i) hl1.symm hl2.symm hW
        · exact hrow.swap' (a + i) (b + i) hl1.symm hl2.symm hW
      have HNx := Lib.hid hnext
      generalize X[i] = x at *
      generalize Y[i] = y at *
      have hne : a + i ≠ b + i := by omega
      have s1 : (IntKind.i64.wrap ((a : Int) + (i : Int))) = ((a + i : Nat) : Int) := by rw [← Int.natCast_add]; exact IntWalk.i64_in _ (by omega)
      have s2 : (IntKind.i64.wrap ((b : Int) + (i : Int))) = ((b + i : Nat) : Int) := by rw [← Int.natCast_add]; exact IntWalk.i64_in _ (by omega)
      have hHN := HNx
      clear hrow e hl1 hl2 e2 hnext hr hiX hiY HNx
      go_wp2_with fail
      go_region
      all_goals
        go_wp2_with fail
        exact ⟨⟨i + 1, by rw [Int.natCast_add]; rfl, by omega, hHN.out _ (by first | exact .inl rfl | exact .inr rfl), by first | exact only_drew (only_setCell (only_setCell hg.out _ _) _ _) | exact only_setCell (only_setCell (only_drew hg.out) _ _) _ _⟩, by simp [intOf]; omega⟩
    · have hin : i = n := by omega
      have e1 : Y.take i = Y := List.take_of_length_le (by have := HY.out; omega)
      have e2 : X.take i = X := List.take_of_length_le (by have := HX.out; omega)
      have e3 : Y.drop i = [] := List.drop_of_length_le (by have := HY.out; omega)
      have e4 : X.drop i = [] := List.drop_of_length_le (by have := HX.out; omega)
      rw [e1, e2, e3, e4, List.append_nil, List.append_nil] at hr
      clear e1 e2 e3 e4 hin
      go_wp2_with fail
      go_end0
      exact ⟨rfl, hr.out, hg⟩

/-- rotate: a row's two parts change places -/
theorem rotate_step1 (P X1 X2 Y Q : List Nat) : P ++ X1 ++ X2 ++ Y ++ Q = P ++ X1 ++ X2 ++ Y ++ Q := rfl

set_option maxRecDepth 100000 in
set_option maxHeartbeats 4000000 in
theorem rotate_any (g N cap : Nat) (rest : List Value) (P A B Q : List Nat) (a m b : Nat) (F : Value) (w : World) (ha : a = P.length) (hA : 0 < A.length) (hB : 0 < B.length) (hm : m = a + A.length) (hb : b = m + B.length) (hN : N = b + Q.length) (hN2 : N ≤ 4096) (hNc : N ≤ cap)
    (h : RowI w g (P ++ A ++ B ++ Q) rest) :
    Calls Tryd.prog 57 #[.slice (some ⟨g, 0, none⟩) N cap, .int .i64 (a : Nat), .int .i64 (m : Nat), .int .i64 (b : Nat), F] w fun e w' => e = .returned (.tuple #[]) ∧ RowI w' g (P ++ B ++ A ++ Q) rest ∧ Hid (w.grownBy w' (some g)) := by
  have H := Lib.hid h
  have hi0 : (m : Int) - (a : Int) = (A.length : Nat) := by omega
  have hj0 : (b : Int) - (m : Int) = (B.length : Nat) := by omega
  have HS : Hid (P.length + A.length = m ∧ N = m + B.length + Q.length) := ⟨by omega, by omega⟩
  have hbN : b ≤ N := by omega
  have hmb : m ≤ b := by omega
  have ham : a ≤ m := by omega
  obtain ⟨α, hα⟩ : ∃ α, α = A.length := ⟨_, rfl⟩
  obtain ⟨β, hβ⟩ : ∃ β, β = B.length := ⟨_, rfl⟩
  rw [← hα] at hi0 hA
  rw [← hβ] at hj0 hB
  have Hα := Lib.hid hα
  have Hβ := Lib.hid hβ
  have hα2 : α ≤ 4096 := by omega
  have hβ2 : β ≤ 4096 := by omega
  clear ha hm hb hN h hα hβ
  go_enter Tryd.func57, Tryd.ntmps57
  go_wp2_with fail
  go_loopw [10, 11] (fun iv jv wr => ∃ (i j : Nat) (P' X Y Q' : List Nat), iv = .int .i64 (i : Nat) ∧ jv = .int .i64 (j : Nat) ∧ 0 < i ∧ 0 < j ∧ i ≤ 4096 ∧ j ≤ 4096 ∧ i ≤ m ∧ m + j ≤ N ∧ Hid (X.length = i ∧ Y.length = j ∧ P'.length + i = m ∧ N = m + j + Q'.length) ∧ Hid (RowI wr g (P' ++ X ++ Y ++ Q') rest) ∧ Hid (P' ++ Y ++ X ++ Q' = P ++ B ++ A ++ Q) ∧ Hid (w.grownBy wr (some g))) (fun iv jv _ => (intOf iv).toNat + (intOf jv).toNat)
  case atStart => exact ⟨α, β, P, A, B, Q, rfl, rfl, hA, hB, hα2, hβ2, by have := HS.out; have := Hα.out; omega, by have := HS.out; have := Hβ.out; omega, by have := HS.out; have := Hα.out; have := Hβ.out; exact ⟨by omega, by omega, by omega, by omega⟩, H.out, rfl, grown_self _ _⟩
  case round =>
    clear H HS hi0 hj0 hA hB hα2 hβ2 Hα Hβ
    obtain ⟨i, j, P', X, Y, Q', rfl, rfl, hi, hj, hi2, hj2, him, hjN, hl, hr, he, hg⟩ := hrel
    have hmi : (m : Int) - (i : Int) = ((m - i : Nat) : Int) := by omega
    obtain ⟨a', ha'⟩ : ∃ a', a' = m - i := ⟨_, rfl⟩
    rw [← ha'] at hmi
    have Ha' : Hid (a' = P'.length) := by show _ = _; have := hl.out; omega
    have ham' : a' + i = m := by omega
    have Ham' := Lib.hid ham'
    clear ha' ham'
    by_cases hij : i = j
    · subst hij
      have HS := Lib.hid (swapRange_any g N cap rest P' X [] Y Q' a' m i F wr Ha'.out hl.out.1 hl.out.2.1 (by have := hl.out; have := Ha'.out; simp; omega) (by have := hl.out; omega) hN2 hNc (by have := hr.out; simpa using this))
      go_wp2_with (first
        | (go_at_call 58; refine HS.out.mono ?_; rintro e w1 ⟨rfl, hr1, hg1⟩; have Hr1 := Lib.hid hr1; clear hr1)
        | fail)
      go_end0
      refine ⟨rfl, ?_, grown_trans hg.out hg1.out⟩
      have := Hr1.out
      rw [← he.out]
      simpa using this
    · have hne : ((i : Int) == (j : Int)) = false := by simp; omega
      by_cases hgt : j < i
      · -- the first j of X and all of Y
        have hX1 : (X.take j).length = j := by rw [List.length_take]; have := hl.out; omega
        have hXe : X.take j ++ X.drop j = X := List.take_append_drop _ _
        have HS := Lib.hid (swapRange_any g N cap rest P' (X.take j) (X.drop j) Y Q' a' m j F wr Ha'.out hX1 hl.out.2.1 (by have := hl.out; have := Ha'.out; rw [List.length_drop]; omega) (by have := hl.out; omega) hN2 hNc (by rw [show P' ++ X.take j ++ X.drop j = P' ++ X by rw [List.append_assoc, hXe]]; exact hr.out))
        have hs : (i : Int) - (j : Int) = ((i - j : Nat) : Int) := by omega
        have HE : Hid (P' ++ Y ++ X.take j ++ X.drop j ++ Q' = P ++ B ++ A ++ Q) := by show _ = _; rw [← he.out, show P' ++ Y ++ X.take j ++ X.drop j = P' ++ Y ++ X by rw [List.append_assoc (P' ++ Y), hXe]]
        have HX1 := Lib.hid hX1
        obtain ⟨d, hd⟩ : ∃ d, d = i - j := ⟨_, rfl⟩
        rw [← hd] at hs
        have hdb : 0 < d ∧ d ≤ 4096 ∧ d + j = i := by omega
        have Hd := Lib.hid hdb
        clear hd hdb hXe hX1 hne hmi
        have hne : ((i : Int) == (j : Int)) = false := by simp; omega
        have hmi : (m : Int) - (i : Int) = (a' : Int) := by have := Ham'.out; omega
        go_wp2_with (first
          | (go_at_call 58; refine HS.out.mono ?_; rintro e w1 ⟨rfl, hr1, hg1⟩; have Hr1 := Lib.hid hr1; clear hr1)
          | fail)
        refine ⟨⟨d, j, P' ++ Y, X.drop j, X.take j, Q', rfl, rfl, Hd.out.1, hj, Hd.out.2.1, hj2, by have := Hd.out; omega, hjN, ?_, Hr1.out, HE.out, grown_trans hg.out hg1.out⟩, ?_⟩
        · have := Hd.out; have := hl.out; exact ⟨by rw [List.length_drop]; omega, HX1.out, by rw [List.length_append]; omega, by omega⟩
        · simp [intOf]; have := Hd.out; omega
      · -- X and the last i of Y
        have hlt : i < j := by
          have : i ≠ j := hij
          omega
        have hY2 : (Y.drop (j - i)).length = i := by rw [List.length_drop]; have := hl.out; omega
        have hYe : Y.take (j - i) ++ Y.drop (j - i) = Y := List.take_append_drop _ _
        obtain ⟨d, hd⟩ : ∃ d, d = j - i := ⟨_, rfl⟩
        rw [← hd] at hY2 hYe
        have hdb : 0 < d ∧ d ≤ 4096 ∧ d + i = j := by omega
        have hY1 : (Y.take d).length = d := by rw [List.length_take]; have := hl.out; omega
        have HS := Lib.hid (swapRange_any g N cap rest P' X (Y.take d) (Y.drop d) Q' a' (m + d) i F wr Ha'.out hl.out.1 hY2 (by have := hl.out; have := Ha'.out; omega) (by have := hl.out; omega) hN2 hNc (by rw [show P' ++ X ++ Y.take d ++ Y.drop d = P' ++ X ++ Y by rw [List.append_assoc (P' ++ X), hYe]]; exact hr.out))
        have hs : (m : Int) + (j : Int) - (i : Int) = ((m + d : Nat) : Int) := by omega
        have hs2 : (j : Int) - (i : Int) = (d : Int) := by omega
        have HE : Hid (P' ++ Y.take d ++ Y.drop d ++ (X ++ Q') = P ++ B ++ A ++ Q) := by show _ = _; rw [← he.out, List.append_assoc P', hYe]; simp
        have HY1 := Lib.hid hY1
        have HY2 := Lib.hid hY2
        have Hd := Lib.hid hdb
        have hjm : (j : Int) ≤ 4096 := by omega
        have hmN : (m : Int) ≤ 4096 := by omega
        clear hd hdb hYe hY1 hY2
        go_wp2_with (first
          | (go_at_call 58; refine HS.out.mono ?_; rintro e w1 ⟨rfl, hr1, hg1⟩; have Hr1 := Lib.hid hr1; clear hr1)
          | fail)
        refine ⟨⟨i, d, P', Y.drop d, Y.take d, X ++ Q', rfl, rfl, hi, Hd.out.1, hi2, Hd.out.2.1, him, by have := Hd.out; omega, ?_, ?_, HE.out, grown_trans hg.out hg1.out⟩, ?_⟩
        · have := Hd.out; have := hl.out; exact ⟨HY2.out, HY1.out, by omega, by rw [List.length_append]; omega⟩
        · have := Hr1.out; show RowI _ _ _ _; simpa using this
        · simp [intOf]; have := Hd.out; omega
end Go.Proofs.YtidmmcgnghdfdaaDoor
