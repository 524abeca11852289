/- Rows of structs: cloned. -/
import Derived.Test.YtihohljhjdmamaaGreatKept2
import Derived.Lib.SliceRun
namespace Go.Proofs.YtihohljhjdmamaaGreat
open Go.RowKit
set_option linter.unusedVariables false

/-- v is a slice of n whose cells are xs -/
def RowAt (w : World) (v : Value) (n : Nat) (xs : List Value) : Prop := ∃ a cap, v = .slice a n cap ∧ ∀ j u, xs[j]? = some u → ∃ g, a = some ⟨g, 0, none⟩ ∧ w.cell? ⟨g, j, none⟩ = some u
theorem RowAt.grown {w w' : World} {v : Value} {n : Nat} {xs : List Value} (h : RowAt w v n xs) (hg : w.grownBy w' none) : RowAt w' v n xs := by
  obtain ⟨a, cap, h1, h2⟩ := h
  refine ⟨a, cap, h1, fun j u hj => ?_⟩
  obtain ⟨g, h3, h4⟩ := h2 j u hj
  exact ⟨g, h3, hg.cell h4 (by simp)⟩
theorem RowAt.nil (w : World) : RowAt w (.slice none 0 0) 0 [] := ⟨none, 0, rfl, fun j u hj => by simp at hj⟩
theorem RowAt.of_owns {w : World} {B : Nat} {e : TypeId} {size : Nat} {v : Value} {n : Nat} {xs : List Value} (h : w.ownsRow B e size v n xs) : RowAt w v n xs := by
  rcases h.2 with ⟨h1, h2⟩ | ⟨g, cap, cur, h1, h2, h3, h4, h5, h6, h7⟩
  · have h0 := h.1
    rw [h2, Nat.zero_mul] at h0
    have hx : xs = [] := List.length_eq_zero_iff.1 h0
    subst hx
    exact ⟨none, 0, by rw [h1, h2], fun j u hj => by simp at hj⟩
  · refine ⟨_, cap, h1, fun j u hj => ⟨g, rfl, ?_⟩⟩
    subst h1
    obtain ⟨hlt, rfl⟩ := List.getElem?_eq_some_iff.1 hj
    rw [h.cellAt j (by rw [← h.1]; exact hlt), hj]

theorem extInfo : (Tryz.prog.info? 62).map (fun i => (i.zero, i.size, i.bytes)) = some (some (.agg #[.string ⟨#[]⟩, .string ⟨#[]⟩]), 2, 32) := by kernel_rfl
set_option maxRecDepth 100000 in
set_option maxHeartbeats 1000000 in
theorem clone_ext (v : Value) (n : Nat) (xs : List Value) (w : World) (hv : RowAt w v n xs) (hx : xs.length = n * 2) (h1 : ∀ u ∈ xs, u.oneCell' = true) (hn : n ≤ 16384) :
    Calls Tryz.prog 46 #[v] w fun e w' => ∃ a' c', e = .returned (.slice a' n c') ∧ w'.ownsRow w.heap.size 62 2 (.slice a' n c') n xs ∧ Hid (w.grownBy w' none) := by
  obtain ⟨a, cap, rfl, hc⟩ := hv
  cases a with
  | none =>
    have hnil : xs = [] := by
      cases xs with
      | nil => rfl
      | cons u us => obtain ⟨g, h, _⟩ := hc 0 u rfl; cases h
    subst hnil
    have hn0 : n = 0 := by simp at hx; omega
    subst hn0
    have q := fun (w : World) (a : Option Addr) (n c n' c' : Nat) => Lib.run_eql_slice_nil (P := Tryz.prog) w 23 _ a n c n' c' Tryz.underlying23
    clear hc
    go_enter Tryz.func46, Tryz.ntmps46
    go_wp2_with fail
    go_ret
    exact ⟨_, _, rfl, World.ownsRow_nil _ _ _ _, grown_self _ _⟩
  | some ad =>
    obtain ⟨i, hi, hz0, hz1, hz2⟩ := info_parts extInfo
    have HC : Hid (∀ j u, xs[j]? = some u → (w.alloc (.cells #[] 62)).cell? (ad.add j) = some u) := fun j u hj => by
      obtain ⟨g, h2, h3⟩ := hc j u hj
      injection h2 with h2
      rw [h2, add_plain, Nat.zero_add]
      exact (World.grownBy_alloc w _ none).cell h3 (by simp)
    have hown : Hid ((w.alloc (.cells #[] 62)).ownsRow w.heap.size 62 2 (.slice (some ⟨w.heap.size, 0, none⟩) 0 0) 0 []) := World.ownsRow_made w #[] 0 (Nat.le_refl _) (Nat.zero_le _) rfl
    have HX := Lib.hid hx
    have H1 := Lib.hid h1
    have hb1 : Hid (0 + n ≤ maxLen) := by show _ ≤ _; unfold maxLen; omega
    have hb2 : Hid ((0 + n) * 32 ≤ 140737488355328) := by show _ ≤ _; omega
    have hb3 : Hid (w.heap.size ≤ (w.alloc (.cells #[] 62)).heap.size) := by show _ ≤ _; simp
    have Hg0 := Lib.hid (World.grownBy_alloc w (.cells #[] 62) none)
    have q := fun (w : World) (a : Option Addr) (n c n' c' : Nat) => Lib.run_eql_slice_nil (P := Tryz.prog) w 23 _ a n c n' c' Tryz.underlying23
    clear hc hx h1
    go_enter Tryz.func46, Tryz.ntmps46
    go_wp2_with (first
      | (at_builtin; refine wpList_append_own _ rfl (.tmp 5) (.tmp 6) 23 rfl w.heap.size 62 i _ 2 32 Tryz.underlying23 hi hz0 hz1 hz2 rfl (by decide) _ 0 [] rfl hown.out ad n cap xs rfl HX.out HC.out H1.out hb1.out hb2.out hb3.out ?_; intro v2 w2 ho2 hg2 _; have HO2 := Lib.hid ho2; have HG2 := Lib.hid hg2; clear ho2 hg2)
      | fail)
    go_ret
    obtain ⟨a2, c2, rfl, _⟩ := RowAt.of_owns HO2.out
    rw [Nat.zero_add]
    refine ⟨_, _, rfl, ?_, grown_bel ((bel_grown Hg0.out (Nat.le_refl _)).grown HG2.out hb3.out (fun q e => by have e1 : some w.heap.size = some q := e; injection e1 with e1; omega)) none⟩
    have h9 := HO2.out
    rw [Nat.zero_add, List.nil_append] at h9
    exact h9

theorem wtsInfo : (Tryz.prog.info? 98).map (fun i => (i.zero, i.size, i.bytes)) = some (some (.agg #[.string ⟨#[]⟩, .int .i64 0, .string ⟨#[]⟩]), 3, 40) := by kernel_rfl
set_option maxRecDepth 100000 in
set_option maxHeartbeats 1000000 in
theorem clone_wts (v : Value) (n : Nat) (xs : List Value) (w : World) (hv : RowAt w v n xs) (hx : xs.length = n * 3) (h1 : ∀ u ∈ xs, u.oneCell' = true) (hn : n ≤ 16384) :
    Calls Tryz.prog 47 #[v] w fun e w' => ∃ a' c', e = .returned (.slice a' n c') ∧ w'.ownsRow w.heap.size 98 3 (.slice a' n c') n xs ∧ Hid (w.grownBy w' none) := by
  obtain ⟨a, cap, rfl, hc⟩ := hv
  cases a with
  | none =>
    have hnil : xs = [] := by
      cases xs with
      | nil => rfl
      | cons u us => obtain ⟨g, h, _⟩ := hc 0 u rfl; cases h
    subst hnil
    have hn0 : n = 0 := by simp at hx; omega
    subst hn0
    have q := fun (w : World) (a : Option Addr) (n c n' c' : Nat) => Lib.run_eql_slice_nil (P := Tryz.prog) w 24 _ a n c n' c' Tryz.underlying24
    clear hc
    go_enter Tryz.func47, Tryz.ntmps47
    go_wp2_with fail
    go_ret
    exact ⟨_, _, rfl, World.ownsRow_nil _ _ _ _, grown_self _ _⟩
  | some ad =>
    obtain ⟨i, hi, hz0, hz1, hz2⟩ := info_parts wtsInfo
    have HC : Hid (∀ j u, xs[j]? = some u → (w.alloc (.cells #[] 98)).cell? (ad.add j) = some u) := fun j u hj => by
      obtain ⟨g, h2, h3⟩ := hc j u hj
      injection h2 with h2
      rw [h2, add_plain, Nat.zero_add]
      exact (World.grownBy_alloc w _ none).cell h3 (by simp)
    have hown : Hid ((w.alloc (.cells #[] 98)).ownsRow w.heap.size 98 3 (.slice (some ⟨w.heap.size, 0, none⟩) 0 0) 0 []) := World.ownsRow_made w #[] 0 (Nat.le_refl _) (Nat.zero_le _) rfl
    have HX := Lib.hid hx
    have H1 := Lib.hid h1
    have hb1 : Hid (0 + n ≤ maxLen) := by show _ ≤ _; unfold maxLen; omega
    have hb2 : Hid ((0 + n) * 40 ≤ 140737488355328) := by show _ ≤ _; omega
    have hb3 : Hid (w.heap.size ≤ (w.alloc (.cells #[] 98)).heap.size) := by show _ ≤ _; simp
    have Hg0 := Lib.hid (World.grownBy_alloc w (.cells #[] 98) none)
    have q := fun (w : World) (a : Option Addr) (n c n' c' : Nat) => Lib.run_eql_slice_nil (P := Tryz.prog) w 24 _ a n c n' c' Tryz.underlying24
    clear hc hx h1
    go_enter Tryz.func47, Tryz.ntmps47
    go_wp2_with (first
      | (at_builtin; refine wpList_append_own _ rfl (.tmp 5) (.tmp 6) 24 rfl w.heap.size 98 i _ 3 40 Tryz.underlying24 hi hz0 hz1 hz2 rfl (by decide) _ 0 [] rfl hown.out ad n cap xs rfl HX.out HC.out H1.out hb1.out hb2.out hb3.out ?_; intro v2 w2 ho2 hg2 _; have HO2 := Lib.hid ho2; have HG2 := Lib.hid hg2; clear ho2 hg2)
      | fail)
    go_ret
    obtain ⟨a2, c2, rfl, _⟩ := RowAt.of_owns HO2.out
    rw [Nat.zero_add]
    refine ⟨_, _, rfl, ?_, grown_bel ((bel_grown Hg0.out (Nat.le_refl _)).grown HG2.out hb3.out (fun q e => by have e1 : some w.heap.size = some q := e; injection e1 with e1; omega)) none⟩
    have h9 := HO2.out
    rw [Nat.zero_add, List.nil_append] at h9
    exact h9
end Go.Proofs.YtihohljhjdmamaaGreat
