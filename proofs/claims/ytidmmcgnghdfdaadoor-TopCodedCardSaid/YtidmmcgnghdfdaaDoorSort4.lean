/- The library's merge in place. -/
import Derived.Test.YtidmmcgnghdfdaaDoorSort3
namespace Go.Proofs.YtidmmcgnghdfdaaDoor
open Go.RowKit SortPlain
set_option linter.unusedVariables false

theorem rowI_eq {w : World} {g : Nat} {Z Z' : List Nat} {rest : List Value} (h : RowI w g Z rest) (e : Z = Z') : RowI w g Z' rest := e ▸ h
theorem srt_take {key : Nat → Nat} {l : List Nat} (h : Srt key l) (n : Nat) : Srt key (l.take n) := List.Pairwise.sublist (List.take_sublist n l) h
theorem srt_drop {key : Nat → Nat} {l : List Nat} (h : Srt key l) (n : Nat) : Srt key (l.drop n) := List.Pairwise.sublist (List.drop_sublist n l) h

set_option maxRecDepth 100000 in
set_option maxHeartbeats 16000000 in
theorem sym_any (g N cap : Nat) (rest : List Value) (f : FuncId) (hf : f = 37) (cv : Value) (dom : Nat → Prop) (key : Nat → Nat) (w0 : World) (hC : CmpOK w0 g f cv dom key) (hN2 : N ≤ 4096) (hNc : N ≤ cap) :
    ∀ (n : Nat) (P A B Q : List Nat) (a m b : Nat) (w : World), A.length + B.length ≤ n → 0 < A.length → 0 < B.length → w0.grownBy w (some g) → (∀ z ∈ A, dom z) → (∀ z ∈ B, dom z) → Srt key A → Srt key B →
      a = P.length → m = a + A.length → b = m + B.length → N = b + Q.length → RowI w g (P ++ A ++ B ++ Q) rest →
    Calls Tryd.prog 55 #[.slice (some ⟨g, 0, none⟩) N cap, .int .i64 (a : Nat), .int .i64 (m : Nat), .int .i64 (b : Nat), .func (.func f) #[] #[cv]] w fun e w' => e = .returned (.tuple #[]) ∧ ∃ C, RowI w' g (P ++ C ++ Q) rest ∧ C.Perm (A ++ B) ∧ Srt key C ∧ Hid (w.grownBy w' (some g)) := by
  intro n
  induction n with
  | zero => intro P A B Q a m b w h hA; omega
  | succ n ih =>
    intro P A B Q a m b w hn hA hB hw0 hdA hdB hsA hsB ha hm hb hN h
    by_cases hA1 : A.length = 1
    · obtain ⟨x, rfl⟩ := List.length_eq_one_iff.1 hA1
      exact sym_one g N cap rest P x B Q a m b f hf cv dom key w0 w hC hw0 (hdA x (by simp)) hdB hsB ha hm hb hN hN2 hNc h
    by_cases hB1 : B.length = 1
    · obtain ⟨y, rfl⟩ := List.length_eq_one_iff.1 hB1
      exact sym_last g N cap rest P A y Q a m b f hf cv dom key w0 w hC hw0 (hdB y (by simp)) hdA hsA ha (by omega) hm hb hN hN2 hNc h
    obtain ⟨α, hα⟩ : ∃ α, α = A.length := ⟨_, rfl⟩
    obtain ⟨β, hβ⟩ : ∃ β, β = B.length := ⟨_, rfl⟩
    obtain ⟨h', hh⟩ : ∃ h', h' = (α + β) / 2 := ⟨_, rfl⟩
    -- the bounds of the search
    obtain ⟨s0, r0, hcase⟩ : ∃ s0 r0, (h' < α ∧ s0 + β = h' ∧ r0 = h') ∨ (α ≤ h' ∧ s0 = 0 ∧ r0 = α) := by
      by_cases hc : h' < α
      · exact ⟨h' - β, h', .inl ⟨hc, by omega, rfl⟩⟩
      · exact ⟨0, α, .inr ⟨by omega, rfl, rfl⟩⟩
    have hs0 : s0 ≤ r0 ∧ r0 ≤ α ∧ r0 ≤ h' ∧ h' ≤ s0 + β ∧ (s0 = 0 ∨ h' = s0 + β) ∧ (r0 = α ∨ r0 = h') := by omega
    obtain ⟨M, hM⟩ : ∃ M, M = a + h' := ⟨_, rfl⟩
    obtain ⟨nn, hnn⟩ : ∃ nn, nn = M + m := ⟨_, rfl⟩
    obtain ⟨p, hp⟩ : ∃ p, nn = p + 1 := ⟨nn - 1, by omega⟩
    have k1 : ((m : Int) - (a : Int) == 1) = false := by simp; omega
    have k2 : ((b : Int) - (m : Int) == 1) = false := by simp; omega
    have k3 : ((a : Int) + (b : Int)) / 2 = (M : Int) := by omega
    have k4 : (M : Int) + (m : Int) = (nn : Int) := by omega
    have k5 : (nn : Int) - 1 = (p : Int) := by omega
    have HC := Lib.hid hC
    have Hw0 := Lib.hid hw0
    have HdA := Lib.hid hdA
    have HdB := Lib.hid hdB
    have HsA := Lib.hid hsA
    have HsB := Lib.hid hsB
    have H := Lib.hid h
    have Hih := Lib.hid ih
    have HL : Hid (a = P.length ∧ m = a + A.length ∧ b = m + B.length ∧ N = b + Q.length ∧ α = A.length ∧ β = B.length ∧ h' = (α + β) / 2 ∧ M = a + h' ∧ nn = M + m ∧ nn = p + 1 ∧ 2 ≤ α ∧ 2 ≤ β ∧ α + β ≤ n + 1) := ⟨ha, hm, hb, hN, hα, hβ, hh, hM, hnn, hp, by omega, by omega, by omega⟩
    have Hs0 := Lib.hid hs0
    have bN : b ≤ N := by omega
    have bm : m < b := by omega
    have ba : a < m := by omega
    have bM1 : a < M := by omega
    have bM2 : M < b := by omega
    have bnn : nn ≤ 8192 := by omega
    have bp : p < nn := by omega
    subst hf
    have Hcase := Lib.hid hcase
    obtain ⟨S0, hS0⟩ : ∃ S0, S0 = a + s0 := ⟨_, rfl⟩
    obtain ⟨R0, hR0⟩ : ∃ R0, R0 = a + r0 := ⟨_, rfl⟩
    have HSR : Hid (S0 = a + s0 ∧ R0 = a + r0) := ⟨hS0, hR0⟩
    have hSR0 : S0 ≤ R0 ∧ R0 ≤ m ∧ a ≤ S0 := by omega
    obtain ⟨g1, g2, g3⟩ := hSR0
    have hpick : (M < m ∧ (nn : Int) - (b : Int) = (S0 : Int) ∧ M = R0) ∨ (m ≤ M ∧ a = S0 ∧ m = R0) := by
      rcases hcase with h | h
      · left; exact ⟨by omega, by omega, by omega⟩
      · right; exact ⟨by omega, by omega, by omega⟩
    clear hC hw0 hdA hdB hsA hsB h ih ha hm hb hN hα hβ hh hM hnn hp hs0 hcase hA hB hA1 hB1 hn hS0 hR0
    go_enter Tryd.func55, Tryd.ntmps55
    rcases hpick with ⟨q1, q2, q3⟩ | ⟨q1, q2, q3⟩
    · have Q3 := Lib.hid q3
      clear q3
      go_wp2_with fail
      go_loopw [20, 21] (fun sv rv wr => ∃ (S R s r : Nat), sv = .int .i64 (S : Nat) ∧ rv = .int .i64 (R : Nat) ∧ a ≤ S ∧ S0 ≤ S ∧ S ≤ R ∧ R ≤ R0 ∧ R ≤ m ∧ Hid (S = a + s ∧ R = a + r ∧ s0 ≤ s ∧ r ≤ r0) ∧ Hid ((s = s0 ∨ ∃ (h1 : s - 1 < A.length) (h2 : h' - s < B.length), key A[s - 1] ≤ key B[h' - s]) ∧ (r = r0 ∨ ∃ (h1 : h' - r - 1 < B.length) (h2 : r < A.length), key B[h' - r - 1] < key A[r])) ∧ Hid (RowI wr g (P ++ A ++ B ++ Q) rest) ∧ Hid (w.grownBy wr (some g))) (fun sv rv _ => (intOf rv - intOf sv).toNat)
      case atStart => exact ⟨S0, R0, s0, r0, rfl, by rw [Q3.out], g3, Nat.le_refl _, g1, Nat.le_refl _, g2, ⟨HSR.out.1, HSR.out.2, Nat.le_refl _, Nat.le_refl _⟩, ⟨.inl rfl, .inl rfl⟩, H.out, grown_self _ _⟩
      case round =>
        clear H
        obtain ⟨S, R, s, r, rfl, rfl, haS, hS0, hSR, hRR, hRm, hst, hk, hr, hg⟩ := hrel
        by_cases hlt : S < R
        · obtain ⟨u, hu⟩ : ∃ u, u = (s + r) / 2 := ⟨_, rfl⟩
          obtain ⟨c, hc⟩ : ∃ c, c = a + u := ⟨_, rfl⟩
          obtain ⟨v, hv⟩ : ∃ v, v = h' - u - 1 := ⟨_, rfl⟩
          obtain ⟨d, hd⟩ : ∃ d, d = m + v := ⟨_, rfl⟩
          have hus : s ≤ u ∧ u < r := by have := hst.out; omega
          have hx1 := HL.out
          have hx2 := Hs0.out
          have hx3 := hst.out
          have k6 : ((S : Int) + (R : Int)) / 2 = (c : Int) := by omega
          have huA : u < A.length := by omega
          have hvB : v < B.length := by omega
          have k7 : (p : Int) - (c : Int) = (d : Int) := by omega
          have hcN : c < N := by omega
          have hdN : d < N := by omega
          have hScR : S ≤ c ∧ c < R := by omega
          have hrow := hr.out
          have e : P ++ A ++ B ++ Q = (P ++ A.take u) ++ A[u] :: ((A.drop (u + 1) ++ B.take v) ++ B[v] :: (B.drop (v + 1) ++ Q)) := by
            have e1 : A = A.take u ++ A[u] :: A.drop (u + 1) := by rw [← List.drop_eq_getElem_cons huA, List.take_append_drop]
            have e2 : B = B.take v ++ B[v] :: B.drop (v + 1) := by rw [← List.drop_eq_getElem_cons hvB, List.take_append_drop]
            conv => lhs; rw [e1, e2]
            simp only [List.append_assoc, List.cons_append]
          rw [e] at hrow
          have hl1 : (P ++ A.take u).length = c := by rw [List.length_append, List.length_take]; omega
          have hl2 : (P ++ A.take u).length + 1 + (A.drop (u + 1) ++ B.take v).length = d := by rw [hl1, List.length_append, List.length_drop, List.length_take]; omega
          have c1 := hrow.cell (mid_at _ _ _)
          have c2 := hrow.cell (mid_at2 _ _ _ _ _)
          rw [hl1] at c1
          rw [hl2] at c2
          have hdu : dom A[u] := HdA.out _ (List.getElem_mem huA)
          have hdv : dom B[v] := HdB.out _ (List.getElem_mem hvB)
          have Hu := Lib.hid (show u + 1 ≤ r ∧ s ≤ u ∧ c = a + u ∧ S ≤ c ∧ c < R ∧ s0 ≤ u from ⟨hus.2, hus.1, hc, hScR.1, hScR.2, by omega⟩)
          by_cases hlt2 : key B[v] < key A[u]
          · have HCr := Lib.hid (fun n => HC.out.lt (grown_trans Hw0.out hg.out) hdv hdu hlt2 n)
            have Hlt2 : Hid (∃ (h1 : h' - u - 1 < B.length) (h2 : u < A.length), key B[h' - u - 1] < key A[u]) := by subst hv; exact ⟨hvB, huA, hlt2⟩
            generalize A[u] = x at c1 HCr
            generalize B[v] = y at c2 HCr
            clear hrow e hl1 hl2 hdu hdv hlt2 hx1 hx2 hx3 hu hc hv hd hus huA hvB hScR
            go_wp2_with fail
            go_quiet ((go_at_call 37; exact Calls.quiet_of (HCr.out _)))
            go_wp2_with fail
            refine ⟨⟨S, c, s, u, rfl, rfl, haS, hS0, Hu.out.2.2.2.1, by have := Hu.out; omega, by have := Hu.out; omega, ⟨hst.out.1, Hu.out.2.2.1, hst.out.2.2.1, by have := Hu.out; have := hst.out; omega⟩, ⟨hk.out.1, .inr Hlt2.out⟩, RowI.drewN hr.out _, only_drewN hg.out _⟩, ?_⟩
            simp [intOf]; have := Hu.out; omega
          · obtain ⟨cc, hc0, hcc⟩ := HC.out.ge (grown_trans Hw0.out hg.out) hdv hdu hlt2
            have hcd : (!decide (cc < 0)) = true := by simp; omega
            have HCr := Lib.hid hcc
            have Hlt2 : Hid (∃ (h1 : u + 1 - 1 < A.length) (h2 : h' - (u + 1) < B.length), key A[u + 1 - 1] ≤ key B[h' - (u + 1)]) := by
              subst hv
              exact ⟨huA, by omega, Nat.le_of_not_lt hlt2⟩
            generalize A[u] = x at c1 HCr hcc
            generalize B[v] = y at c2 HCr hcc
            have hc1N : c + 1 ≤ N := hcN
            clear hrow e hl1 hl2 hdu hdv hlt2 hx1 hx2 hx3 hu hc hv hd hus huA hvB hScR hcc
            go_wp2_with fail
            go_quiet ((go_at_call 37; exact Calls.quiet_of (HCr.out _)))
            go_wp2_with fail
            refine ⟨⟨c + 1, R, u + 1, r, by rw [Int.natCast_add]; rfl, rfl, by have := Hu.out; omega, by have := Hu.out; omega, by have := Hu.out; omega, hRR, hRm, ⟨by have := Hu.out; omega, hst.out.2.1, by have := Hu.out; omega, hst.out.2.2.2⟩, ⟨.inr Hlt2.out, hk.out.2⟩, RowI.drewN hr.out _, only_drewN hg.out _⟩, ?_⟩
            simp [intOf]; have := Hu.out; omega
        · have hSR2 : R = S := by omega
          subst hSR2
          have hrs : r = s := by have := hst.out; omega
          subst hrs
          clear hlt hSR
          obtain ⟨t, ht⟩ : ∃ t, t = h' - r := ⟨_, rfl⟩
          obtain ⟨E, hE⟩ : ∃ E, E = m + t := ⟨_, rfl⟩
          have x1 := HL.out
          have x2 := Hs0.out
          have x3 := hst.out
          have k8 : (nn : Int) - (R : Int) = (E : Int) := by omega
          have eA : A.take r ++ A.drop r = A := List.take_append_drop _ _
          have eB : B.take t ++ B.drop t = B := List.take_append_drop _ _
          have l1 : (A.take r).length = r := by rw [List.length_take]; omega
          have l2 : (A.drop r).length = α - r := by rw [List.length_drop]; omega
          have l3 : (B.take t).length = t := by rw [List.length_take]; omega
          have l4 : (B.drop t).length = β - t := by rw [List.length_drop]; omega
          have HX : Hid (∀ x ∈ A.take r ++ B.take t, ∀ y ∈ A.drop r ++ B.drop t, key x ≤ key y) := by
            refine sym_join HsA.out HsB.out r t (by omega) (by omega) ?_ ?_
            · rcases hk.out.1 with h0 | ⟨h1, h2, h3⟩
              · rcases x2.2.2.2.2.1 with h4 | h4
                · left; omega
                · right; left; omega
              · right; right; subst ht; exact ⟨h1, h2, h3⟩
            · rcases hk.out.2 with h0 | ⟨h1, h2, h3⟩
              · rcases x2.2.2.2.2.2 with h4 | h4
                · right; left; omega
                · left; omega
              · right; right; subst ht; exact ⟨h1, h2, Nat.le_of_lt h3⟩
          have hrow := hr.out
          have e0 : P ++ A ++ B ++ Q = (P ++ A.take r) ++ A.drop r ++ B.take t ++ (B.drop t ++ Q) := by
            conv => lhs; rw [← eA, ← eB]
            simp only [List.append_assoc]
          have HRot : Hid (r < α → 0 < t → Calls Tryd.prog 57 #[.slice (some ⟨g, 0, none⟩) N cap, .int .i64 (R : Nat), .int .i64 (m : Nat), .int .i64 (E : Nat), .func (.func 37) #[] #[cv]] wr fun e w' => e = .returned (.tuple #[]) ∧ RowI w' g (P ++ A.take r ++ B.take t ++ A.drop r ++ (B.drop t ++ Q)) rest ∧ Hid (wr.grownBy w' (some g))) := fun p1 p2 =>
            rotate_any g N cap rest (P ++ A.take r) (A.drop r) (B.take t) (B.drop t ++ Q) R m E _ wr (by rw [List.length_append, l1]; omega) (by omega) (by omega) (by omega) (by omega) (by rw [List.length_append, l4]; omega) hN2 hNc (rowI_eq hrow e0)
          have HNoRot : Hid (α ≤ r ∨ t ≤ 0 → RowI wr g (P ++ A.take r ++ B.take t ++ A.drop r ++ (B.drop t ++ Q)) rest) := fun p1 => by
            refine rowI_eq hrow (e0.trans ?_)
            rcases p1 with p1 | p1
            · have : A.drop r = [] := List.drop_of_length_le (by omega)
              rw [this]; simp
            · have : t = 0 := by omega
              subst this
              simp
          have HRec1 : Hid (∀ w1, RowI w1 g (P ++ A.take r ++ B.take t ++ A.drop r ++ (B.drop t ++ Q)) rest → w.grownBy w1 (some g) → 0 < r → 0 < t → Calls Tryd.prog 55 #[.slice (some ⟨g, 0, none⟩) N cap, .int .i64 (a : Nat), .int .i64 (R : Nat), .int .i64 (M : Nat), .func (.func 37) #[] #[cv]] w1 fun e w' => e = .returned (.tuple #[]) ∧ ∃ C, RowI w' g (P ++ C ++ (A.drop r ++ B.drop t ++ Q)) rest ∧ C.Perm (A.take r ++ B.take t) ∧ Srt key C ∧ Hid (w1.grownBy w' (some g))) := fun w1 h1 h2 p1 p2 =>
            Hih.out P (A.take r) (B.take t) (A.drop r ++ B.drop t ++ Q) a R M w1 (by omega) (by omega) (by omega) (grown_trans Hw0.out h2) (fun z hz => HdA.out z (List.mem_of_mem_take hz)) (fun z hz => HdB.out z (List.mem_of_mem_take hz)) (srt_take HsA.out _) (srt_take HsB.out _) (by omega) (by omega) (by omega) (by rw [List.length_append, List.length_append, l2, l4]; omega) (rowI_eq h1 (by simp only [List.append_assoc]))
          have HNo1 : Hid (r ≤ 0 ∨ t ≤ 0 → Srt key (A.take r ++ B.take t)) := fun p1 => by
            rcases p1 with p1 | p1
            · have : r = 0 := by omega
              subst this
              simpa using srt_take HsB.out t
            · have : t = 0 := by omega
              subst this
              simpa using srt_take HsA.out r
          have HRec2 : Hid (∀ w1 C, RowI w1 g (P ++ C ++ (A.drop r ++ B.drop t ++ Q)) rest → C.Perm (A.take r ++ B.take t) → w.grownBy w1 (some g) → r < α → t < β → Calls Tryd.prog 55 #[.slice (some ⟨g, 0, none⟩) N cap, .int .i64 (M : Nat), .int .i64 (E : Nat), .int .i64 (b : Nat), .func (.func 37) #[] #[cv]] w1 fun e w' => e = .returned (.tuple #[]) ∧ ∃ D, RowI w' g (P ++ C ++ D ++ Q) rest ∧ D.Perm (A.drop r ++ B.drop t) ∧ Srt key D ∧ Hid (w1.grownBy w' (some g))) := fun w1 C h1 hC1 h2 p1 p2 => by
            have hCl := hC1.length_eq
            rw [List.length_append, l1, l3] at hCl
            exact Hih.out (P ++ C) (A.drop r) (B.drop t) Q M E b w1 (by omega) (by omega) (by omega) (grown_trans Hw0.out h2) (fun z hz => HdA.out z (List.mem_of_mem_drop hz)) (fun z hz => HdB.out z (List.mem_of_mem_drop hz)) (srt_drop HsA.out _) (srt_drop HsB.out _) (by rw [List.length_append]; omega) (by omega) (by omega) (by omega) (rowI_eq h1 (by simp only [List.append_assoc]))
          have HNo2 : Hid (α ≤ r ∨ β ≤ t → Srt key (A.drop r ++ B.drop t)) := fun p1 => by
            rcases p1 with p1 | p1
            · rw [List.drop_of_length_le (by omega)]; simpa using srt_drop HsB.out t
            · rw [List.drop_of_length_le (l := B) (by omega)]; simpa using srt_drop HsA.out r
          have HPerm : Hid ((A.take r ++ B.take t ++ (A.drop r ++ B.drop t)).Perm (A ++ B)) := by
            show List.Perm _ _
            conv => rhs; rw [← eA, ← eB]
            simp only [List.append_assoc]
            refine List.Perm.append_left _ ?_
            rw [← List.append_assoc, ← List.append_assoc]
            exact List.Perm.append_right _ List.perm_append_comm
          have Hgr := Lib.hid hg
          have Hf : Hid (R = a + r ∧ E = m + t ∧ m = a + α ∧ M = a + h' ∧ t + r = h' ∧ b = m + β ∧ r ≤ α ∧ t ≤ β ∧ h' = (α + β) / 2 ∧ 2 ≤ α ∧ 2 ≤ β) := ⟨by omega, hE, by omega, by omega, by omega, by omega, by omega, by omega, by omega, by omega, by omega⟩
          have hEN : E ≤ N := by omega
          clear x1 x2 x3 hrow e0 eA eB l1 l2 l3 l4 ht hE hr hk hst Hcase Hs0 HSR hg HL
          rcases Nat.lt_or_ge r α with p1 | p1 <;> rcases Nat.lt_or_ge 0 t with p2 | p2 <;> rcases Nat.lt_or_ge 0 r with p3 | p3 <;> rcases Nat.lt_or_ge t β with p4 | p4
          all_goals first
            | (exfalso; have := Hf.out; omega)
            | skip
          all_goals
            have hf := Hf.out
            first
              | (have d1 : decide (R < m) = true := by simp; omega)
              | (have d1 : decide (R < m) = false := by simp; omega)
            first
              | (have d2 : decide (m < E) = true := by simp; omega)
              | (have d2 : decide (m < E) = false := by simp; omega)
            first
              | (have d3 : decide (a < R) = true := by simp; omega)
              | (have d3 : decide (a < R) = false := by simp; omega)
            first
              | (have d4 : decide (R < M) = true := by simp; omega)
              | (have d4 : decide (R < M) = false := by simp; omega)
            first
              | (have d5 : decide (M < E) = true := by simp; omega)
              | (have d5 : decide (M < E) = false := by simp; omega)
            first
              | (have d6 : decide (E < b) = true := by simp; omega)
              | (have d6 : decide (E < b) = false := by simp; omega)
            clear hf Hf
            go_wp2_with fail
            first
              | (have HRow := Lib.hid (HNoRot.out (.inl p1)); have HG := Hgr; generalize wr = w1 at *)
              | (have HRow := Lib.hid (HNoRot.out (.inr p2)); have HG := Hgr; generalize wr = w1 at *)
              | (refine (HRot.out p1 p2).mono ?_; rintro e w1 ⟨rfl, hr1, hg1⟩; have HRow := Lib.hid hr1; have HG := Lib.hid (grown_trans Hgr.out.out hg1.out); clear hr1 hg1; simp only []; go_wp2_with fail)
            first
              | (have hs1 := HNo1.out (.inl p3); have HS2 := Lib.hid hs1; have HRow2 := Lib.hid (rowI_eq HRow.out (show P ++ A.take r ++ B.take t ++ A.drop r ++ (B.drop t ++ Q) = P ++ (A.take r ++ B.take t) ++ (A.drop r ++ B.drop t ++ Q) by simp only [List.append_assoc])); have HP2 := Lib.hid (List.Perm.refl (A.take r ++ B.take t)); have HG2 := HG; generalize w1 = w2 at *; generalize hC1 : A.take r ++ B.take t = C1 at HS2 HRow2 HP2; have HP2 : Hid (C1.Perm (A.take r ++ B.take t)) := (by rw [hC1]; exact HP2.out); clear hs1 hC1)
              | (have hs1 := HNo1.out (.inr p2); have HS2 := Lib.hid hs1; have HRow2 := Lib.hid (rowI_eq HRow.out (show P ++ A.take r ++ B.take t ++ A.drop r ++ (B.drop t ++ Q) = P ++ (A.take r ++ B.take t) ++ (A.drop r ++ B.drop t ++ Q) by simp only [List.append_assoc])); have HP2 := Lib.hid (List.Perm.refl (A.take r ++ B.take t)); have HG2 := HG; generalize w1 = w2 at *; generalize hC1 : A.take r ++ B.take t = C1 at HS2 HRow2 HP2; have HP2 : Hid (C1.Perm (A.take r ++ B.take t)) := (by rw [hC1]; exact HP2.out); clear hs1 hC1)
              | (refine (HRec1.out _ HRow.out HG.out p3 p2).mono ?_; rintro e w2 ⟨rfl, C1, hr1, hp1, hs1, hg1⟩; have HRow2 := Lib.hid hr1; have HP2 := Lib.hid hp1; have HS2 := Lib.hid hs1; have HG2 := Lib.hid (grown_trans HG.out hg1.out); clear hr1 hp1 hs1 hg1; simp only []; go_wp2_with fail)
            first
              | (have hs2 := HNo2.out (.inl p1); go_end0; exact ⟨rfl, C1 ++ (A.drop r ++ B.drop t), rowI_eq HRow2.out (by simp only [List.append_assoc]), (List.Perm.append_right _ HP2.out).trans HPerm.out, srt_halves HS2.out hs2 HP2.out (List.Perm.refl _) HX.out, HG2.out⟩)
              | (have hs2 := HNo2.out (.inr p4); go_end0; exact ⟨rfl, C1 ++ (A.drop r ++ B.drop t), rowI_eq HRow2.out (by simp only [List.append_assoc]), (List.Perm.append_right _ HP2.out).trans HPerm.out, srt_halves HS2.out hs2 HP2.out (List.Perm.refl _) HX.out, HG2.out⟩)
              | (refine (HRec2.out _ _ HRow2.out HP2.out HG2.out p1 p4).mono ?_; rintro e w3 ⟨rfl, D, hr1, hp1, hs1, hg1⟩; have HRow3 := Lib.hid hr1; have HP3 := Lib.hid hp1; have HS3 := Lib.hid hs1; have HG3 := Lib.hid (grown_trans HG2.out hg1.out); clear hr1 hp1 hs1 hg1; simp only []; go_wp2_with fail; go_end0; exact ⟨rfl, C1 ++ D, rowI_eq HRow3.out (by simp only [List.append_assoc]), (List.Perm.append HP2.out HP3.out).trans HPerm.out, srt_halves HS2.out HS3.out HP2.out HP3.out HX.out, HG3.out⟩)
    · have Q2 := Lib.hid q2
      have Q3 := Lib.hid q3
      clear q2 q3
      go_wp2_with fail
      go_loopw [20, 21] (fun sv rv wr => ∃ (S R s r : Nat), sv = .int .i64 (S : Nat) ∧ rv = .int .i64 (R : Nat) ∧ a ≤ S ∧ S0 ≤ S ∧ S ≤ R ∧ R ≤ R0 ∧ R ≤ m ∧ Hid (S = a + s ∧ R = a + r ∧ s0 ≤ s ∧ r ≤ r0) ∧ Hid ((s = s0 ∨ ∃ (h1 : s - 1 < A.length) (h2 : h' - s < B.length), key A[s - 1] ≤ key B[h' - s]) ∧ (r = r0 ∨ ∃ (h1 : h' - r - 1 < B.length) (h2 : r < A.length), key B[h' - r - 1] < key A[r])) ∧ Hid (RowI wr g (P ++ A ++ B ++ Q) rest) ∧ Hid (w.grownBy wr (some g))) (fun sv rv _ => (intOf rv - intOf sv).toNat)
      case atStart => exact ⟨S0, R0, s0, r0, by rw [Q2.out], by rw [Q3.out], g3, Nat.le_refl _, g1, Nat.le_refl _, g2, ⟨HSR.out.1, HSR.out.2, Nat.le_refl _, Nat.le_refl _⟩, ⟨.inl rfl, .inl rfl⟩, H.out, grown_self _ _⟩
      case round =>
        clear H
        obtain ⟨S, R, s, r, rfl, rfl, haS, hS0, hSR, hRR, hRm, hst, hk, hr, hg⟩ := hrel
        by_cases hlt : S < R
        · obtain ⟨u, hu⟩ : ∃ u, u = (s + r) / 2 := ⟨_, rfl⟩
          obtain ⟨c, hc⟩ : ∃ c, c = a + u := ⟨_, rfl⟩
          obtain ⟨v, hv⟩ : ∃ v, v = h' - u - 1 := ⟨_, rfl⟩
          obtain ⟨d, hd⟩ : ∃ d, d = m + v := ⟨_, rfl⟩
          have hus : s ≤ u ∧ u < r := by have := hst.out; omega
          have hx1 := HL.out
          have hx2 := Hs0.out
          have hx3 := hst.out
          have k6 : ((S : Int) + (R : Int)) / 2 = (c : Int) := by omega
          have huA : u < A.length := by omega
          have hvB : v < B.length := by omega
          have k7 : (p : Int) - (c : Int) = (d : Int) := by omega
          have hcN : c < N := by omega
          have hdN : d < N := by omega
          have hScR : S ≤ c ∧ c < R := by omega
          have hrow := hr.out
          have e : P ++ A ++ B ++ Q = (P ++ A.take u) ++ A[u] :: ((A.drop (u + 1) ++ B.take v) ++ B[v] :: (B.drop (v + 1) ++ Q)) := by
            have e1 : A = A.take u ++ A[u] :: A.drop (u + 1) := by rw [← List.drop_eq_getElem_cons huA, List.take_append_drop]
            have e2 : B = B.take v ++ B[v] :: B.drop (v + 1) := by rw [← List.drop_eq_getElem_cons hvB, List.take_append_drop]
            conv => lhs; rw [e1, e2]
            simp only [List.append_assoc, List.cons_append]
          rw [e] at hrow
          have hl1 : (P ++ A.take u).length = c := by rw [List.length_append, List.length_take]; omega
          have hl2 : (P ++ A.take u).length + 1 + (A.drop (u + 1) ++ B.take v).length = d := by rw [hl1, List.length_append, List.length_drop, List.length_take]; omega
          have c1 := hrow.cell (mid_at _ _ _)
          have c2 := hrow.cell (mid_at2 _ _ _ _ _)
          rw [hl1] at c1
          rw [hl2] at c2
          have hdu : dom A[u] := HdA.out _ (List.getElem_mem huA)
          have hdv : dom B[v] := HdB.out _ (List.getElem_mem hvB)
          have Hu := Lib.hid (show u + 1 ≤ r ∧ s ≤ u ∧ c = a + u ∧ S ≤ c ∧ c < R ∧ s0 ≤ u from ⟨hus.2, hus.1, hc, hScR.1, hScR.2, by omega⟩)
          by_cases hlt2 : key B[v] < key A[u]
          · have HCr := Lib.hid (fun n => HC.out.lt (grown_trans Hw0.out hg.out) hdv hdu hlt2 n)
            have Hlt2 : Hid (∃ (h1 : h' - u - 1 < B.length) (h2 : u < A.length), key B[h' - u - 1] < key A[u]) := by subst hv; exact ⟨hvB, huA, hlt2⟩
            generalize A[u] = x at c1 HCr
            generalize B[v] = y at c2 HCr
            clear hrow e hl1 hl2 hdu hdv hlt2 hx1 hx2 hx3 hu hc hv hd hus huA hvB hScR
            go_wp2_with fail
            go_quiet ((go_at_call 37; exact Calls.quiet_of (HCr.out _)))
            go_wp2_with fail
            refine ⟨⟨S, c, s, u, rfl, rfl, haS, hS0, Hu.out.2.2.2.1, by have := Hu.out; omega, by have := Hu.out; omega, ⟨hst.out.1, Hu.out.2.2.1, hst.out.2.2.1, by have := Hu.out; have := hst.out; omega⟩, ⟨hk.out.1, .inr Hlt2.out⟩, RowI.drewN hr.out _, only_drewN hg.out _⟩, ?_⟩
            simp [intOf]; have := Hu.out; omega
          · obtain ⟨cc, hc0, hcc⟩ := HC.out.ge (grown_trans Hw0.out hg.out) hdv hdu hlt2
            have hcd : (!decide (cc < 0)) = true := by simp; omega
            have HCr := Lib.hid hcc
            have Hlt2 : Hid (∃ (h1 : u + 1 - 1 < A.length) (h2 : h' - (u + 1) < B.length), key A[u + 1 - 1] ≤ key B[h' - (u + 1)]) := by
              subst hv
              exact ⟨huA, by omega, Nat.le_of_not_lt hlt2⟩
            generalize A[u] = x at c1 HCr hcc
            generalize B[v] = y at c2 HCr hcc
            have hc1N : c + 1 ≤ N := hcN
            clear hrow e hl1 hl2 hdu hdv hlt2 hx1 hx2 hx3 hu hc hv hd hus huA hvB hScR hcc
            go_wp2_with fail
            go_quiet ((go_at_call 37; exact Calls.quiet_of (HCr.out _)))
            go_wp2_with fail
            refine ⟨⟨c + 1, R, u + 1, r, by rw [Int.natCast_add]; rfl, rfl, by have := Hu.out; omega, by have := Hu.out; omega, by have := Hu.out; omega, hRR, hRm, ⟨by have := Hu.out; omega, hst.out.2.1, by have := Hu.out; omega, hst.out.2.2.2⟩, ⟨.inr Hlt2.out, hk.out.2⟩, RowI.drewN hr.out _, only_drewN hg.out _⟩, ?_⟩
            simp [intOf]; have := Hu.out; omega
        · have hSR2 : R = S := by omega
          subst hSR2
          have hrs : r = s := by have := hst.out; omega
          subst hrs
          clear hlt hSR
          obtain ⟨t, ht⟩ : ∃ t, t = h' - r := ⟨_, rfl⟩
          obtain ⟨E, hE⟩ : ∃ E, E = m + t := ⟨_, rfl⟩
          have x1 := HL.out
          have x2 := Hs0.out
          have x3 := hst.out
          have k8 : (nn : Int) - (R : Int) = (E : Int) := by omega
          have eA : A.take r ++ A.drop r = A := List.take_append_drop _ _
          have eB : B.take t ++ B.drop t = B := List.take_append_drop _ _
          have l1 : (A.take r).length = r := by rw [List.length_take]; omega
          have l2 : (A.drop r).length = α - r := by rw [List.length_drop]; omega
          have l3 : (B.take t).length = t := by rw [List.length_take]; omega
          have l4 : (B.drop t).length = β - t := by rw [List.length_drop]; omega
          have HX : Hid (∀ x ∈ A.take r ++ B.take t, ∀ y ∈ A.drop r ++ B.drop t, key x ≤ key y) := by
            refine sym_join HsA.out HsB.out r t (by omega) (by omega) ?_ ?_
            · rcases hk.out.1 with h0 | ⟨h1, h2, h3⟩
              · rcases x2.2.2.2.2.1 with h4 | h4
                · left; omega
                · right; left; omega
              · right; right; subst ht; exact ⟨h1, h2, h3⟩
            · rcases hk.out.2 with h0 | ⟨h1, h2, h3⟩
              · rcases x2.2.2.2.2.2 with h4 | h4
                · right; left; omega
                · left; omega
              · right; right; subst ht; exact ⟨h1, h2, Nat.le_of_lt h3⟩
          have hrow := hr.out
          have e0 : P ++ A ++ B ++ Q = (P ++ A.take r) ++ A.drop r ++ B.take t ++ (B.drop t ++ Q) := by
            conv => lhs; rw [← eA, ← eB]
            simp only [List.append_assoc]
          have HRot : Hid (r < α → 0 < t → Calls Tryd.prog 57 #[.slice (some ⟨g, 0, none⟩) N cap, .int .i64 (R : Nat), .int .i64 (m : Nat), .int .i64 (E : Nat), .func (.func 37) #[] #[cv]] wr fun e w' => e = .returned (.tuple #[]) ∧ RowI w' g (P ++ A.take r ++ B.take t ++ A.drop r ++ (B.drop t ++ Q)) rest ∧ Hid (wr.grownBy w' (some g))) := fun p1 p2 =>
            rotate_any g N cap rest (P ++ A.take r) (A.drop r) (B.take t) (B.drop t ++ Q) R m E _ wr (by rw [List.length_append, l1]; omega) (by omega) (by omega) (by omega) (by omega) (by rw [List.length_append, l4]; omega) hN2 hNc (rowI_eq hrow e0)
          have HNoRot : Hid (α ≤ r ∨ t ≤ 0 → RowI wr g (P ++ A.take r ++ B.take t ++ A.drop r ++ (B.drop t ++ Q)) rest) := fun p1 => by
            refine rowI_eq hrow (e0.trans ?_)
            rcases p1 with p1 | p1
            · have : A.drop r = [] := List.drop_of_length_le (by omega)
              rw [this]; simp
            · have : t = 0 := by omega
              subst this
              simp
          have HRec1 : Hid (∀ w1, RowI w1 g (P ++ A.take r ++ B.take t ++ A.drop r ++ (B.drop t ++ Q)) rest → w.grownBy w1 (some g) → 0 < r → 0 < t → Calls Tryd.prog 55 #[.slice (some ⟨g, 0, none⟩) N cap, .int .i64 (a : Nat), .int .i64 (R : Nat), .int .i64 (M : Nat), .func (.func 37) #[] #[cv]] w1 fun e w' => e = .returned (.tuple #[]) ∧ ∃ C, RowI w' g (P ++ C ++ (A.drop r ++ B.drop t ++ Q)) rest ∧ C.Perm (A.take r ++ B.take t) ∧ Srt key C ∧ Hid (w1.grownBy w' (some g))) := fun w1 h1 h2 p1 p2 =>
            Hih.out P (A.take r) (B.take t) (A.drop r ++ B.drop t ++ Q) a R M w1 (by omega) (by omega) (by omega) (grown_trans Hw0.out h2) (fun z hz => HdA.out z (List.mem_of_mem_take hz)) (fun z hz => HdB.out z (List.mem_of_mem_take hz)) (srt_take HsA.out _) (srt_take HsB.out _) (by omega) (by omega) (by omega) (by rw [List.length_append, List.length_append, l2, l4]; omega) (rowI_eq h1 (by simp only [List.append_assoc]))
          have HNo1 : Hid (r ≤ 0 ∨ t ≤ 0 → Srt key (A.take r ++ B.take t)) := fun p1 => by
            rcases p1 with p1 | p1
            · have : r = 0 := by omega
              subst this
              simpa using srt_take HsB.out t
            · have : t = 0 := by omega
              subst this
              simpa using srt_take HsA.out r
          have HRec2 : Hid (∀ w1 C, RowI w1 g (P ++ C ++ (A.drop r ++ B.drop t ++ Q)) rest → C.Perm (A.take r ++ B.take t) → w.grownBy w1 (some g) → r < α → t < β → Calls Tryd.prog 55 #[.slice (some ⟨g, 0, none⟩) N cap, .int .i64 (M : Nat), .int .i64 (E : Nat), .int .i64 (b : Nat), .func (.func 37) #[] #[cv]] w1 fun e w' => e = .returned (.tuple #[]) ∧ ∃ D, RowI w' g (P ++ C ++ D ++ Q) rest ∧ D.Perm (A.drop r ++ B.drop t) ∧ Srt key D ∧ Hid (w1.grownBy w' (some g))) := fun w1 C h1 hC1 h2 p1 p2 => by
            have hCl := hC1.length_eq
            rw [List.length_append, l1, l3] at hCl
            exact Hih.out (P ++ C) (A.drop r) (B.drop t) Q M E b w1 (by omega) (by omega) (by omega) (grown_trans Hw0.out h2) (fun z hz => HdA.out z (List.mem_of_mem_drop hz)) (fun z hz => HdB.out z (List.mem_of_mem_drop hz)) (srt_drop HsA.out _) (srt_drop HsB.out _) (by rw [List.length_append]; omega) (by omega) (by omega) (by omega) (rowI_eq h1 (by simp only [List.append_assoc]))
          have HNo2 : Hid (α ≤ r ∨ β ≤ t → Srt key (A.drop r ++ B.drop t)) := fun p1 => by
            rcases p1 with p1 | p1
            · rw [List.drop_of_length_le (by omega)]; simpa using srt_drop HsB.out t
            · rw [List.drop_of_length_le (l := B) (by omega)]; simpa using srt_drop HsA.out r
          have HPerm : Hid ((A.take r ++ B.take t ++ (A.drop r ++ B.drop t)).Perm (A ++ B)) := by
            show List.Perm _ _
            conv => rhs; rw [← eA, ← eB]
            simp only [List.append_assoc]
            refine List.Perm.append_left _ ?_
            rw [← List.append_assoc, ← List.append_assoc]
            exact List.Perm.append_right _ List.perm_append_comm
          have Hgr := Lib.hid hg
          have Hf : Hid (R = a + r ∧ E = m + t ∧ m = a + α ∧ M = a + h' ∧ t + r = h' ∧ b = m + β ∧ r ≤ α ∧ t ≤ β ∧ h' = (α + β) / 2 ∧ 2 ≤ α ∧ 2 ≤ β) := ⟨by omega, hE, by omega, by omega, by omega, by omega, by omega, by omega, by omega, by omega, by omega⟩
          have hEN : E ≤ N := by omega
          clear x1 x2 x3 hrow e0 eA eB l1 l2 l3 l4 ht hE hr hk hst Hcase Hs0 HSR hg HL
          rcases Nat.lt_or_ge r α with p1 | p1 <;> rcases Nat.lt_or_ge 0 t with p2 | p2 <;> rcases Nat.lt_or_ge 0 r with p3 | p3 <;> rcases Nat.lt_or_ge t β with p4 | p4
          all_goals first
            | (exfalso; have := Hf.out; omega)
            | skip
          all_goals
            have hf := Hf.out
            first
              | (have d1 : decide (R < m) = true := by simp; omega)
              | (have d1 : decide (R < m) = false := by simp; omega)
            first
              | (have d2 : decide (m < E) = true := by simp; omega)
              | (have d2 : decide (m < E) = false := by simp; omega)
            first
              | (have d3 : decide (a < R) = true := by simp; omega)
              | (have d3 : decide (a < R) = false := by simp; omega)
            first
              | (have d4 : decide (R < M) = true := by simp; omega)
              | (have d4 : decide (R < M) = false := by simp; omega)
            first
              | (have d5 : decide (M < E) = true := by simp; omega)
              | (have d5 : decide (M < E) = false := by simp; omega)
            first
              | (have d6 : decide (E < b) = true := by simp; omega)
              | (have d6 : decide (E < b) = false := by simp; omega)
            clear hf Hf
            go_wp2_with fail
            first
              | (have HRow := Lib.hid (HNoRot.out (.inl p1)); have HG := Hgr; generalize wr = w1 at *)
              | (have HRow := Lib.hid (HNoRot.out (.inr p2)); have HG := Hgr; generalize wr = w1 at *)
              | (refine (HRot.out p1 p2).mono ?_; rintro e w1 ⟨rfl, hr1, hg1⟩; have HRow := Lib.hid hr1; have HG := Lib.hid (grown_trans Hgr.out.out hg1.out); clear hr1 hg1; simp only []; go_wp2_with fail)
            first
              | (have hs1 := HNo1.out (.inl p3); have HS2 := Lib.hid hs1; have HRow2 := Lib.hid (rowI_eq HRow.out (show P ++ A.take r ++ B.take t ++ A.drop r ++ (B.drop t ++ Q) = P ++ (A.take r ++ B.take t) ++ (A.drop r ++ B.drop t ++ Q) by simp only [List.append_assoc])); have HP2 := Lib.hid (List.Perm.refl (A.take r ++ B.take t)); have HG2 := HG; generalize w1 = w2 at *; generalize hC1 : A.take r ++ B.take t = C1 at HS2 HRow2 HP2; have HP2 : Hid (C1.Perm (A.take r ++ B.take t)) := (by rw [hC1]; exact HP2.out); clear hs1 hC1)
              | (have hs1 := HNo1.out (.inr p2); have HS2 := Lib.hid hs1; have HRow2 := Lib.hid (rowI_eq HRow.out (show P ++ A.take r ++ B.take t ++ A.drop r ++ (B.drop t ++ Q) = P ++ (A.take r ++ B.take t) ++ (A.drop r ++ B.drop t ++ Q) by simp only [List.append_assoc])); have HP2 := Lib.hid (List.Perm.refl (A.take r ++ B.take t)); have HG2 := HG; generalize w1 = w2 at *; generalize hC1 : A.take r ++ B.take t = C1 at HS2 HRow2 HP2; have HP2 : Hid (C1.Perm (A.take r ++ B.take t)) := (by rw [hC1]; exact HP2.out); clear hs1 hC1)
              | (refine (HRec1.out _ HRow.out HG.out p3 p2).mono ?_; rintro e w2 ⟨rfl, C1, hr1, hp1, hs1, hg1⟩; have HRow2 := Lib.hid hr1; have HP2 := Lib.hid hp1; have HS2 := Lib.hid hs1; have HG2 := Lib.hid (grown_trans HG.out hg1.out); clear hr1 hp1 hs1 hg1; simp only []; go_wp2_with fail)
            first
              | (have hs2 := HNo2.out (.inl p1); go_end0; exact ⟨rfl, C1 ++ (A.drop r ++ B.drop t), rowI_eq HRow2.out (by simp only [List.append_assoc]), (List.Perm.append_right _ HP2.out).trans HPerm.out, srt_halves HS2.out hs2 HP2.out (List.Perm.refl _) HX.out, HG2.out⟩)
              | (have hs2 := HNo2.out (.inr p4); go_end0; exact ⟨rfl, C1 ++ (A.drop r ++ B.drop t), rowI_eq HRow2.out (by simp only [List.append_assoc]), (List.Perm.append_right _ HP2.out).trans HPerm.out, srt_halves HS2.out hs2 HP2.out (List.Perm.refl _) HX.out, HG2.out⟩)
              | (refine (HRec2.out _ _ HRow2.out HP2.out HG2.out p1 p4).mono ?_; rintro e w3 ⟨rfl, D, hr1, hp1, hs1, hg1⟩; have HRow3 := Lib.hid hr1; have HP3 := Lib.hid hp1; have HS3 := Lib.hid hs1; have HG3 := Lib.hid (grown_trans HG2.out hg1.out); clear hr1 hp1 hs1 hg1; simp only []; go_wp2_with fail; go_end0; exact ⟨rfl, C1 ++ D, rowI_eq HRow3.out (by simp only [List.append_assoc]), (List.Perm.append HP2.out HP3.out).trans HPerm.out, srt_halves HS2.out HS3.out HP2.out HP3.out HX.out, HG3.out⟩)
end Go.Proofs.YtidmmcgnghdfdaaDoor
