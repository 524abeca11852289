/- What the comparison of two leaves tells; the library's insertion sort. -/
import Derived.Test.YtidmmcgnghdfdaaDoorSort1
namespace Go.Proofs.YtidmmcgnghdfdaaDoor
open Go.RowKit SortPlain
set_option linter.unusedVariables false

def cmpv (p q : Nat) : Int := if p < q then -1 else if q < p then 1 else 0
theorem cmpv_lt {p q : Nat} (h : p < q) : cmpv p q = -1 := by unfold cmpv; rw [if_pos h]
theorem cmpv_ge {p q : Nat} (h : ¬ p < q) : ∃ c : Int, cmpv p q = c ∧ 0 ≤ c := by
  unfold cmpv
  rw [if_neg h]
  split
  · exact ⟨1, rfl, by omega⟩
  · exact ⟨0, rfl, by omega⟩

set_option maxRecDepth 100000 in
theorem isNaN_any (x : Nat) (w : World) : Calls Tryd.prog 50 #[.int .u64 (x : Nat)] w fun e w' => e = .returned (.bool false) ∧ w' = w := by
  go_enter Tryd.func50, Tryd.ntmps50
  go_wp2_with fail
  go_ret
  exact ⟨by simp, rfl⟩
set_option maxRecDepth 100000 in
set_option maxHeartbeats 1000000 in
theorem compare_any (x y : Nat) (w : World) : Calls Tryd.prog 38 #[.int .u64 (x : Nat), .int .u64 (y : Nat)] w fun e w' => e = .returned (.int .i64 (cmpv x y)) ∧ w' = w := by
  rcases Nat.lt_trichotomy x y with h | h | h
  · rw [cmpv_lt h]
    have h' : (x : Int) < y := by omega
    clear h
    go_enter Tryd.func38, Tryd.ntmps38
    go_wp2_with (first
      | (go_at_call 50; refine (isNaN_any _ _).mono ?_; rintro e w1 ⟨rfl, rfl⟩)
      | fail)
    go_ret
    exact ⟨rfl, rfl⟩
  · subst h
    rw [show cmpv x x = 0 by unfold cmpv; simp]
    go_enter Tryd.func38, Tryd.ntmps38
    go_wp2_with (first
      | (go_at_call 50; refine (isNaN_any _ _).mono ?_; rintro e w1 ⟨rfl, rfl⟩)
      | fail)
    go_ret
    exact ⟨rfl, rfl⟩
  · rw [show cmpv x y = 1 by unfold cmpv; rw [if_neg (by omega), if_pos h]]
    have h' : (y : Int) < x := by omega
    clear h
    go_enter Tryd.func38, Tryd.ntmps38
    go_wp2_with (first
      | (go_at_call 50; refine (isNaN_any _ _).mono ?_; rintro e w1 ⟨rfl, rfl⟩)
      | fail)
    go_ret
    exact ⟨rfl, rfl⟩

/-- what a comparison is told, as the library calls it -/
def CmpOK (w0 : World) (g : Nat) (f : FuncId) (cv : Value) (dom : Nat → Prop) (key : Nat → Nat) : Prop :=
  ∀ W : World, w0.grownBy W (some g) → ∀ x y : Nat, dom x → dom y → Calls Tryd.prog f #[.int .i64 (x : Nat), .int .i64 (y : Nat), cv] W fun e w' => e = .returned (.int .i64 (cmpv (key x) (key y))) ∧ ∃ n, w' = W.drewN n
theorem CmpOK.later {w0 w1 : World} {g : Nat} {f : FuncId} {cv : Value} {dom : Nat → Prop} {key : Nat → Nat} (h : CmpOK w0 g f cv dom key) (hg : w0.grownBy w1 (some g)) : CmpOK w1 g f cv dom key := fun W hW => h W (grown_trans hg hW)
/-- the comparison in a region that reads -/
theorem CmpOK.lt {w0 : World} {g : Nat} {f : FuncId} {cv : Value} {dom : Nat → Prop} {key : Nat → Nat} (h : CmpOK w0 g f cv dom key) {wr : World} (hg : w0.grownBy wr (some g)) {x y : Nat} (hx : dom x) (hy : dom y) (hlt : key x < key y) (n : Nat) :
    Calls Tryd.prog f #[.int .i64 (x : Nat), .int .i64 (y : Nat), cv] (wr.drewN n) fun e w' => e = .returned (.int .i64 (-1)) ∧ ∃ m, w' = (wr.drewN n).drewN m := by
  have := h (wr.drewN n) (only_drewN hg n) x y hx hy
  rw [cmpv_lt hlt] at this
  exact this
theorem CmpOK.ge {w0 : World} {g : Nat} {f : FuncId} {cv : Value} {dom : Nat → Prop} {key : Nat → Nat} (h : CmpOK w0 g f cv dom key) {wr : World} (hg : w0.grownBy wr (some g)) {x y : Nat} (hx : dom x) (hy : dom y) (hlt : ¬ key x < key y) :
    ∃ c : Int, 0 ≤ c ∧ ∀ n, Calls Tryd.prog f #[.int .i64 (x : Nat), .int .i64 (y : Nat), cv] (wr.drewN n) fun e w' => e = .returned (.int .i64 c) ∧ ∃ m, w' = (wr.drewN n).drewN m := by
  obtain ⟨c, hc, h0⟩ := cmpv_ge hlt
  refine ⟨c, h0, fun n => ?_⟩
  have := h (wr.drewN n) (only_drewN hg n) x y hx hy
  rw [hc] at this
  exact this

set_option maxRecDepth 100000 in
set_option maxHeartbeats 8000000 in
theorem insertion_any (g N cap : Nat) (rest : List Value) (P A Q : List Nat) (a b : Nat) (f : FuncId) (hf : f = 37) (cv : Value) (dom : Nat → Prop) (key : Nat → Nat) (w0 w : World) (hC : CmpOK w0 g f cv dom key) (hw0 : w0.grownBy w (some g)) (hdom : ∀ z ∈ A, dom z)
    (ha : a = P.length) (hb : b = a + A.length) (hN : N = b + Q.length) (hN2 : N ≤ 4096) (hNc : N ≤ cap) (h : RowI w g (P ++ A ++ Q) rest) :
    Calls Tryd.prog 54 #[.slice (some ⟨g, 0, none⟩) N cap, .int .i64 (a : Nat), .int .i64 (b : Nat), .func (.func f) #[] #[cv]] w fun e w' => e = .returned (.tuple #[]) ∧ ∃ A', RowI w' g (P ++ A' ++ Q) rest ∧ A'.Perm A ∧ Srt key A' ∧ Hid (w.grownBy w' (some g)) := by
  subst hf
  have HC := Lib.hid hC
  have Hw0 := Lib.hid hw0
  have Hdom := Lib.hid hdom
  have H := Lib.hid h
  have HL : Hid (a = P.length ∧ b = a + A.length ∧ N = b + Q.length) := ⟨ha, hb, hN⟩
  have hab : a ≤ b := by omega
  have hbN : b ≤ N := by omega
  clear hC hw0 hdom h ha hb hN
  by_cases hA0 : A = []
  · subst hA0
    have hba : ¬ ((a : Int) + 1 < (b : Int)) := by have := HL.out; simp at this; omega
    go_enter Tryd.func54, Tryd.ntmps54
    go_wp2_with fail
    refine wp_loop_rounds 1 ?_
    rw [rounds_succ]
    go_wp2_with fail
    go_end0
    exact ⟨rfl, [], H.out, List.Perm.nil, Srt.nil key, grown_self _ _⟩
  have hAp : 0 < A.length := List.length_pos_iff.2 hA0
  have hab2 : a + 1 ≤ b := by have := HL.out; omega
  have HA : Hid (∃ x R, A = x :: R) := by
    cases A with
    | nil => simp at hAp
    | cons x R => exact ⟨x, R, rfl⟩
  clear hAp hA0
  go_enter Tryd.func54, Tryd.ntmps54
  go_wp2_with fail
  go_loopw [8] (fun iv wr => ∃ (i : Nat) (S R : List Nat), iv = .int .i64 (i : Nat) ∧ a < i ∧ i ≤ b ∧ Hid (RowI wr g (P ++ S ++ R ++ Q) rest) ∧ Hid ((S ++ R).Perm A ∧ Srt key S ∧ S.length + a = i) ∧ Hid (w.grownBy wr (some g))) (fun iv _ => N - (intOf iv).toNat)
  case atStart =>
    obtain ⟨x, R, e⟩ := HA.out
    refine ⟨a + 1, [x], R, by rw [Int.natCast_add]; rfl, by omega, hab2, ?_, ⟨by rw [e]; simp, Srt.one key x, by simp; omega⟩, grown_self _ _⟩
    have := H.out
    rw [e] at this
    show RowI _ _ _ _
    simpa using this
  case round =>
    clear H HA
    obtain ⟨i, S, R, rfl, hai, hib, hr, hp, hg⟩ := hrel
    by_cases hlt : i < b
    · have hRl : 0 < R.length := by have h1 := hp.out.1.length_eq; have := hp.out.2.2; have := HL.out; rw [List.length_append] at h1; omega
      obtain ⟨x, R', hR⟩ : ∃ x R', R = x :: R' := by
        cases R with
        | nil => simp at hRl
        | cons x R => exact ⟨x, R, rfl⟩
      subst hR
      have HSl := Lib.hid hp.out.2.2
      have Hx : Hid (dom x) := Hdom.out x (hp.out.1.mem_iff.1 (by simp))
      have HSd : Hid (∀ y ∈ S, dom y) := fun y hy => Hdom.out y (hp.out.1.mem_iff.1 (by simp [hy]))
      clear hRl
      go_wp2_with fail
      obtain ⟨wo, hwo⟩ : ∃ wo : World, wo = wr := ⟨_, rfl⟩
      subst hwo
      go_loopw [9] (fun jv wr => ∃ (j : Nat) (S1 S2 : List Nat), jv = .int .i64 (j : Nat) ∧ a ≤ j ∧ j ≤ i ∧ Hid (j = a + S1.length ∧ S1 ++ S2 = S ∧ ∀ y ∈ S2, key x < key y) ∧ Hid (RowI wr g (P ++ S1 ++ x :: S2 ++ R' ++ Q) rest) ∧ Hid (w.grownBy wr (some g))) (fun jv _ => (intOf jv).toNat)
      case atStart => exact ⟨i, S, [], rfl, by omega, Nat.le_refl _, ⟨by have := HSl.out; omega, by simp, by simp⟩, by have := hr.out; show RowI _ _ _ _; simpa using this, hg⟩
      case round =>
        obtain ⟨j, S1, S2, rfl, haj, hji, hs, hr2, hg2⟩ := hrel
        by_cases hS1 : S1 = []
        · subst hS1
          have hja : decide (a < j) = false := by have := hs.out.1; simp at this ⊢; omega
          have hja2 : (j : Int) ≤ (a : Int) := by have := hs.out.1; simp at this; omega
          clear hr
          go_wp2_with fail
          go_quiet (fail)
          go_wp2_with fail
          refine ⟨⟨i + 1, x :: S2, R', by rw [Int.natCast_add]; rfl, by omega, by omega, ?_, ⟨?_, ?_, ?_⟩, only_drewN hg2.out _⟩, by simp [intOf]; omega⟩
          · show RowI _ _ _ _
            refine RowI.drewN ?_ _
            have := hr2.out; simpa using this
          · have h1 := hp.out.1; have h2 := hs.out.2.1; simp at h2; subst h2
            refine List.Perm.trans ?_ h1
            rw [List.cons_append]
            exact List.perm_middle.symm
          · have h2 := hs.out.2.1; simp at h2; subst h2
            exact srt_cons.2 ⟨fun y hy => Nat.le_of_lt (hs.out.2.2 y hy), hp.out.2.1⟩
          · have h2 := hs.out.2.1; simp at h2; subst h2; have := hp.out.2.2; simp; omega
        · -- S1 = T ++ [y]
          obtain ⟨T, y, hT⟩ : ∃ T y, S1 = T ++ [y] := ⟨S1.dropLast, S1.getLast hS1, (List.dropLast_concat_getLast hS1).symm⟩
          subst hT
          obtain ⟨k, hk⟩ : ∃ k, k = a + T.length := ⟨_, rfl⟩
          have hjk : j = k + 1 := by have := hs.out.1; simp at this; omega
          subst hjk
          have hja : decide ((a : Int) < (k : Int) + 1) = true := by simp; omega
          have hrow := hr2.out
          have e : P ++ (T ++ [y]) ++ x :: S2 ++ R' ++ Q = (P ++ T) ++ y :: ([] ++ x :: (S2 ++ R' ++ Q)) := by simp
          rw [e] at hrow
          have hl1 : (P ++ T).length = k := by rw [List.length_append, hk, HL.out.1]
          have c1 := hrow.cell (mid_at _ _ _)
          have c2 := hrow.cell (mid_at2 _ _ _ _ _)
          rw [hl1] at c1
          rw [hl1, List.length_nil, Nat.add_zero] at c2
          have f1 := hrow.free k
          have f2 := hrow.free (k + 1)
          have hyd : dom y := HSd.out y (by rw [← hs.out.2.1]; simp)
          have hkN : k + 1 < N := by omega
          by_cases hlt2 : key x < key y
          · have HCr := Lib.hid (fun n => HC.out.lt (grown_trans Hw0.out hg2.out) Hx.out hyd hlt2 n)
            have hnext : ∀ W : World, (W.heap = ((wr.setCell ⟨g, k, none⟩ (.int .i64 (x : Nat))).setCell ⟨g, k + 1, none⟩ (.int .i64 (y : Nat))).heap ∨ W.heap = ((wr.setCell ⟨g, k + 1, none⟩ (.int .i64 (y : Nat))).setCell ⟨g, k, none⟩ (.int .i64 (x : Nat))).heap) → RowI W g (P ++ T ++ x :: (y :: S2) ++ R' ++ Q) rest := fun W hW => by
              have e3 : P ++ T ++ x :: (y :: S2) ++ R' ++ Q = (P ++ T) ++ x :: ([] ++ y :: (S2 ++ R' ++ Q)) := by simp
              rw [e3]
              rcases hW with hW | hW
              · exact hrow.swap k (k + 1) hl1.symm (by rw [hl1]; simp) hW
              · exact hrow.swap' k (k + 1) hl1.symm (by rw [hl1]; simp) hW
            have HNx := Lib.hid hnext
            have Hlt2 := Lib.hid hlt2
            have Hk := Lib.hid hk
            clear hrow e hl1 hnext hr2 hyd hlt2 hk hr hS1
            go_wp2_with fail
            go_quiet ((go_at_call 37; exact Calls.quiet_of (HCr.out _)))
            go_wp2_with fail
            go_region
            all_goals
              go_wp2_with fail
              refine ⟨⟨k, T, y :: S2, rfl, by have := Hk.out; omega, by omega, ⟨Hk.out, by rw [← hs.out.2.1]; simp, ?_⟩, HNx.out _ (by first | exact .inl rfl | exact .inr rfl), ?_⟩, by simp [intOf]⟩
              · intro z hz
                rcases List.mem_cons.1 hz with rfl | hz
                · exact Hlt2.out
                · exact hs.out.2.2 z hz
              · first | exact only_drew (only_setCell (only_setCell (only_drewN hg2.out _) _ _) _ _) | exact only_setCell (only_setCell (only_drew (only_drewN hg2.out _)) _ _) _ _ | exact only_drewN (only_setCell (only_setCell hg2.out _ _) _ _) _
          · obtain ⟨c, hc0, hcc⟩ := HC.out.ge (grown_trans Hw0.out hg2.out) Hx.out hyd hlt2
            have HCr := Lib.hid hcc
            have Hlt2 : Hid (key y ≤ key x) := Nat.le_of_not_lt hlt2
            clear hrow e hl1 hyd hlt2 hk hr hS1 hcc
            go_wp2_with fail
            go_quiet ((go_at_call 37; exact Calls.quiet_of (HCr.out _)))
            go_wp2_with fail
            refine ⟨⟨i + 1, T ++ [y] ++ x :: S2, R', by rw [Int.natCast_add]; rfl, by omega, by omega, ?_, ⟨?_, ?_, ?_⟩, only_drewN hg2.out _⟩, by simp [intOf]; omega⟩
            · show RowI _ _ _ _
              refine RowI.drewN ?_ _
              have := hr2.out; simpa using this
            · have h1 := hp.out.1; have h2 := hs.out.2.1; rw [← h2] at h1
              refine List.Perm.trans ?_ h1
              rw [List.append_assoc (T ++ [y]), List.append_assoc (T ++ [y])]
              exact List.Perm.append_left _ (by rw [List.cons_append]; exact List.perm_middle.symm)
            · refine srt_insert (by rw [hs.out.2.1]; exact hp.out.2.1) (.inr ⟨T.length, by simp, by simp, ?_⟩) (fun z hz => Nat.le_of_lt (hs.out.2.2 z hz))
              simpa using Hlt2.out
            · have h2 := congrArg List.length hs.out.2.1; have := hp.out.2.2; simp at h2 ⊢; omega
    · have hin : i = b := by omega
      have hR : R = [] := by
        have h1 := hp.out.1.length_eq; have := hp.out.2.2; have := HL.out; rw [List.length_append] at h1
        exact List.length_eq_zero_iff.1 (by omega)
      subst hR
      clear hin
      go_wp2_with fail
      go_end0
      refine ⟨rfl, S, by have := hr.out; simpa using this, by have := hp.out.1; simpa using this, hp.out.2.1, hg⟩
end Go.Proofs.YtidmmcgnghdfdaaDoor
