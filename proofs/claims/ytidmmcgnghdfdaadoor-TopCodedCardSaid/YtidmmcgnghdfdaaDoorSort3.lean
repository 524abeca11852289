/- The library's merge in place, where one part is a single element. -/
import Derived.Test.YtidmmcgnghdfdaaDoorSort2
namespace Go.Proofs.YtidmmcgnghdfdaaDoor
open Go.RowKit SortPlain
set_option linter.unusedVariables false

set_option maxRecDepth 100000 in
set_option maxHeartbeats 8000000 in
theorem sym_one (g N cap : Nat) (rest : List Value) (P : List Nat) (x : Nat) (B Q : List Nat) (a m b : Nat) (f : FuncId) (hf : f = 37) (cv : Value) (dom : Nat → Prop) (key : Nat → Nat) (w0 w : World) (hC : CmpOK w0 g f cv dom key) (hw0 : w0.grownBy w (some g)) (hx : dom x) (hdom : ∀ z ∈ B, dom z) (hB : Srt key B)
    (ha : a = P.length) (hm : m = a + 1) (hb : b = m + B.length) (hN : N = b + Q.length) (hN2 : N ≤ 4096) (hNc : N ≤ cap) (h : RowI w g (P ++ [x] ++ B ++ Q) rest) :
    Calls Tryd.prog 55 #[.slice (some ⟨g, 0, none⟩) N cap, .int .i64 (a : Nat), .int .i64 (m : Nat), .int .i64 (b : Nat), .func (.func f) #[] #[cv]] w fun e w' => e = .returned (.tuple #[]) ∧ ∃ C, RowI w' g (P ++ C ++ Q) rest ∧ C.Perm ([x] ++ B) ∧ Srt key C ∧ Hid (w.grownBy w' (some g)) := by
  subst hf
  have HC := Lib.hid hC
  have Hw0 := Lib.hid hw0
  have Hx := Lib.hid hx
  have Hdom := Lib.hid hdom
  have HB := Lib.hid hB
  have H := Lib.hid h
  have HL : Hid (a = P.length ∧ m = a + 1 ∧ b = m + B.length ∧ N = b + Q.length) := ⟨ha, hm, hb, hN⟩
  have hma : (m : Int) - (a : Int) = 1 := by omega
  have hbm : m ≤ b := by omega
  have hbN : b ≤ N := by omega
  have ham : a < m := by omega
  obtain ⟨β, hβ⟩ : ∃ β, β = B.length := ⟨_, rfl⟩
  have Hβ := Lib.hid hβ
  have hbb : m + β = b := by omega
  have Hbb := Lib.hid hbb
  clear hC hw0 hdom hB h ha hm hb hN hx hβ hbb
  go_enter Tryd.func55, Tryd.ntmps55
  go_wp2_with fail
  go_loopw [10, 11] (fun iv jv wr => ∃ (i j s t : Nat), iv = .int .i64 (i : Nat) ∧ jv = .int .i64 (j : Nat) ∧ m ≤ i ∧ i ≤ j ∧ j ≤ b ∧ Hid (i = m + s ∧ j = m + t) ∧ Hid ((s = 0 ∨ ∃ h : s - 1 < B.length, key B[s - 1] < key x) ∧ (t = β ∨ ∃ h : t < B.length, key x ≤ key B[t])) ∧ Hid (RowI wr g (P ++ [x] ++ B ++ Q) rest) ∧ Hid (w.grownBy wr (some g))) (fun iv jv _ => (intOf jv - intOf iv).toNat)
  case atStart => exact ⟨m, b, 0, β, rfl, rfl, Nat.le_refl _, hbm, Nat.le_refl _, ⟨rfl, Hbb.out.symm⟩, ⟨.inl rfl, .inl rfl⟩, H.out, grown_self _ _⟩
  case round =>
    clear H
    obtain ⟨i, j, s, t, rfl, rfl, hmi, hij, hjb, hst, hk, hr, hg⟩ := hrel
    by_cases hlt : i < j
    · obtain ⟨q, hq⟩ : ∃ q, q = (i + j) / 2 - m := ⟨_, rfl⟩
      have hh : ((i : Int) + (j : Int)) / 2 = ((m + q : Nat) : Int) := by omega
      have hq1 : i ≤ m + q ∧ m + q < j := by omega
      have hqB : q < B.length := by have := hst.out; have := Hβ.out; have := Hbb.out; omega
      have hrow := hr.out
      have e : P ++ [x] ++ B ++ Q = P ++ x :: (B.take q ++ B[q] :: (B.drop (q + 1) ++ Q)) := by
        have : B = B.take q ++ B[q] :: B.drop (q + 1) := by rw [← List.drop_eq_getElem_cons hqB, List.take_append_drop]
        conv => lhs; rw [this]
        simp only [List.append_assoc, List.cons_append, List.nil_append]
      rw [e] at hrow
      have hlq : P.length + 1 + (B.take q).length = m + q := by rw [List.length_take]; have := HL.out; omega
      have c1 := hrow.cell (mid_at _ _ _)
      have c2 := hrow.cell (mid_at2 _ _ _ _ _)
      rw [hlq] at c2
      rw [← HL.out.1] at c1
      have hdq : dom B[q] := Hdom.out _ (List.getElem_mem hqB)
      have Hq1 := Lib.hid hq1
      have HqB := Lib.hid hqB
      by_cases hlt2 : key B[q] < key x
      · have HCr := Lib.hid (fun n => HC.out.lt (grown_trans Hw0.out hg.out) hdq Hx.out hlt2 n)
        have Hlt2 : Hid (∃ h : q + 1 - 1 < B.length, key B[q + 1 - 1] < key x) := ⟨by omega, hlt2⟩
        generalize B[q] = y at c2 HCr
        have hmqN : m + q < N := by omega
        clear hrow e hlq hdq hlt2 hq hq1 hqB
        go_wp2_with fail
        go_quiet ((go_at_call 37; exact Calls.quiet_of (HCr.out _)))
        go_wp2_with fail
        refine ⟨⟨m + q + 1, j, q + 1, t, by rw [Int.natCast_add]; rfl, rfl, by omega, Hq1.out.2, hjb, ⟨by omega, hst.out.2⟩, ⟨.inr Hlt2.out, hk.out.2⟩, RowI.drewN hr.out _, only_drewN hg.out _⟩, ?_⟩
        simp [intOf]; have := Hq1.out; omega
      · obtain ⟨c, hc0, hcc⟩ := HC.out.ge (grown_trans Hw0.out hg.out) hdq Hx.out hlt2
        have HCr := Lib.hid hcc
        have Hlt2 : Hid (∃ h : q < B.length, key x ≤ key B[q]) := ⟨hqB, Nat.le_of_not_lt hlt2⟩
        generalize B[q] = y at c2 HCr hcc
        have hmqN : m + q < N := by omega
        clear hrow e hlq hdq hlt2 hq hq1 hqB hcc
        go_wp2_with fail
        go_quiet ((go_at_call 37; exact Calls.quiet_of (HCr.out _)))
        go_wp2_with fail
        refine ⟨⟨i, m + q, s, q, rfl, by first | rfl | (rw [Int.natCast_add]), hmi, Hq1.out.1, by have := Hq1.out; omega, ⟨hst.out.1, rfl⟩, ⟨hk.out.1, .inr Hlt2.out⟩, RowI.drewN hr.out _, only_drewN hg.out _⟩, ?_⟩
        simp [intOf]; have := Hq1.out; omega
    · have hij2 : i = j := by omega
      subst hij2
      have hts : t = s := by have := hst.out; omega
      subst hts
      obtain ⟨z, hz⟩ : ∃ z, z = a + t := ⟨_, rfl⟩
      have hiz : i = z + 1 := by have := hst.out; have := HL.out; omega
      subst hiz
      have htB : t ≤ B.length := by have := hst.out; have := Hβ.out; have := Hbb.out; omega
      have HtB := Lib.hid htB
      have Hz := Lib.hid hz
      have hzN : z + 1 ≤ N := by omega
      have haz : a ≤ z := by omega
      clear hz htB hlt
      go_wp2_with fail
      obtain ⟨wo, hwo⟩ : ∃ wo : World, wo = wr := ⟨_, rfl⟩
      subst hwo
      go_loopw [13] (fun kv wr => ∃ (k q : Nat), kv = .int .i64 (k : Nat) ∧ a ≤ k ∧ k ≤ z ∧ Hid (k = a + q) ∧ Hid (RowI wr g (P ++ B.take q ++ [x] ++ B.drop q ++ Q) rest) ∧ Hid (w.grownBy wr (some g))) (fun kv _ => (z + 1 - (intOf kv).toNat))
      case atStart => exact ⟨a, 0, rfl, Nat.le_refl _, haz, rfl, by have := hr.out; show RowI _ _ _ _; simpa using this, hg⟩
      case round =>
        obtain ⟨k, q, rfl, hak, hkz, hkq, hr2, hg2⟩ := hrel
        by_cases hlt3 : k < z
        · have hqB : q < B.length := by have := Hz.out; have := hkq.out; have := HtB.out; omega
          have hrow := hr2.out
          have e : P ++ B.take q ++ [x] ++ B.drop q ++ Q = (P ++ B.take q) ++ x :: ([] ++ B[q] :: (B.drop (q + 1) ++ Q)) := by
            rw [List.drop_eq_getElem_cons hqB]; simp only [List.append_assoc, List.cons_append, List.nil_append]
          rw [e] at hrow
          have hl1 : (P ++ B.take q).length = k := by rw [List.length_append, List.length_take]; have := HL.out; have := hkq.out; omega
          have c1 := hrow.cell (mid_at _ _ _)
          have c2 := hrow.cell (mid_at2 _ _ _ _ _)
          rw [hl1] at c1
          rw [hl1, List.length_nil, Nat.add_zero] at c2
          have f1 := hrow.free k
          have f2 := hrow.free (k + 1)
          have hnext : ∀ W : World, (W.heap = ((wr.setCell ⟨g, k, none⟩ (.int .i64 (B[q] : Nat))).setCell ⟨g, k + 1, none⟩ (.int .i64 (x : Nat))).heap ∨ W.heap = ((wr.setCell ⟨g, k + 1, none⟩ (.int .i64 (x : Nat))).setCell ⟨g, k, none⟩ (.int .i64 (B[q] : Nat))).heap) → RowI W g (P ++ B.take (q + 1) ++ [x] ++ B.drop (q + 1) ++ Q) rest := fun W hW => by
            have e3 : P ++ B.take (q + 1) ++ [x] ++ B.drop (q + 1) ++ Q = (P ++ B.take q) ++ B[q] :: ([] ++ x :: (B.drop (q + 1) ++ Q)) := by
              rw [List.take_succ_eq_append_getElem hqB]; simp only [List.append_assoc, List.cons_append, List.nil_append]
            rw [e3]
            rcases hW with hW | hW
            · exact hrow.swap k (k + 1) hl1.symm (by rw [hl1]; simp) hW
            · exact hrow.swap' k (k + 1) hl1.symm (by rw [hl1]; simp) hW
          have HNx := Lib.hid hnext
          generalize B[q] = y at c2 HNx
          have hkN : k + 1 < N := by omega
          clear hrow e hl1 hnext hqB
          go_wp2_with fail
          go_region
          all_goals
            go_wp2_with fail
            refine ⟨⟨k + 1, q + 1, by rw [Int.natCast_add]; rfl, by omega, by omega, by have := hkq.out; show _ = _; omega, HNx.out _ (by first | exact .inl rfl | exact .inr rfl), ?_⟩, by simp [intOf]; omega⟩
            first | exact only_drew (only_setCell (only_setCell hg2.out _ _) _ _) | exact only_setCell (only_setCell (only_drew hg2.out) _ _) _ _
        · have hkz2 : k = z := by omega
          have hqt : q = t := by have := hkq.out; have := Hz.out; omega
          subst hqt
          clear hkz2
          go_wp2_with fail
          refine bodyPost_ret (results_none rfl _ _ _) rfl ?_
          refine ⟨rfl, B.take q ++ x :: B.drop q, by have := hr2.out; simpa using this, ?_, ?_, hg2⟩
          · have : (B.take q ++ x :: B.drop q).Perm (x :: (B.take q ++ B.drop q)) := List.perm_middle
            rw [List.take_append_drop] at this
            simpa using this
          · obtain ⟨hk1, hk2⟩ := hk.out
            refine srt_insert (by rw [List.take_append_drop]; exact HB.out) ?_ ?_
            · rcases hk1 with h0 | ⟨h1, h2⟩
              · left; rw [h0]; rfl
              · by_cases hq0 : q = 0
                · left; rw [hq0]; rfl
                · right
                  refine ⟨q - 1, by rw [List.length_take]; omega, by rw [List.length_take]; omega, ?_⟩
                  rw [List.getElem_take]
                  exact Nat.le_of_lt h2
            · intro y hy
              obtain ⟨p, hp, rfl⟩ := List.getElem_of_mem hy
              rw [List.length_drop] at hp
              rcases hk2 with h0 | ⟨h1, h2⟩
              · have := Hβ.out; omega
              · rw [List.getElem_drop]
                exact Nat.le_trans h2 (srt_get HB.out (by omega) (by omega))

set_option maxRecDepth 100000 in
set_option maxHeartbeats 8000000 in
theorem sym_last (g N cap : Nat) (rest : List Value) (P A : List Nat) (y : Nat) (Q : List Nat) (a m b : Nat) (f : FuncId) (hf : f = 37) (cv : Value) (dom : Nat → Prop) (key : Nat → Nat) (w0 w : World) (hC : CmpOK w0 g f cv dom key) (hw0 : w0.grownBy w (some g)) (hy : dom y) (hdom : ∀ z ∈ A, dom z) (hA : Srt key A)
    (ha : a = P.length) (hA2 : 2 ≤ A.length) (hm : m = a + A.length) (hb : b = m + 1) (hN : N = b + Q.length) (hN2 : N ≤ 4096) (hNc : N ≤ cap) (h : RowI w g (P ++ A ++ [y] ++ Q) rest) :
    Calls Tryd.prog 55 #[.slice (some ⟨g, 0, none⟩) N cap, .int .i64 (a : Nat), .int .i64 (m : Nat), .int .i64 (b : Nat), .func (.func f) #[] #[cv]] w fun e w' => e = .returned (.tuple #[]) ∧ ∃ C, RowI w' g (P ++ C ++ Q) rest ∧ C.Perm (A ++ [y]) ∧ Srt key C ∧ Hid (w.grownBy w' (some g)) := by
  subst hf
  have HC := Lib.hid hC
  have Hw0 := Lib.hid hw0
  have Hy := Lib.hid hy
  have Hdom := Lib.hid hdom
  have HA := Lib.hid hA
  have H := Lib.hid h
  have HL : Hid (a = P.length ∧ m = a + A.length ∧ b = m + 1 ∧ N = b + Q.length) := ⟨ha, hm, hb, hN⟩
  obtain ⟨α, hα⟩ : ∃ α, α = A.length := ⟨_, rfl⟩
  have Hα := Lib.hid hα
  rw [← hα] at hA2 hm
  have hma : (m : Int) - (a : Int) = (α : Int) := by omega
  have hα1 : ((α : Int) == 1) = false := by simp; omega
  have hbm : (b : Int) - (m : Int) = 1 := by omega
  have hmN : m < N := by omega
  have ham : a ≤ m := by omega
  have Hm := Lib.hid hm
  clear hC hw0 hdom hA h ha hm hb hN hy hα hA2
  go_enter Tryd.func55, Tryd.ntmps55
  go_wp2_with fail
  go_loopw [14, 15] (fun iv jv wr => ∃ (i j s t : Nat), iv = .int .i64 (i : Nat) ∧ jv = .int .i64 (j : Nat) ∧ a ≤ i ∧ i ≤ j ∧ j ≤ m ∧ Hid (i = a + s ∧ j = a + t) ∧ Hid ((s = 0 ∨ ∃ h : s - 1 < A.length, key A[s - 1] ≤ key y) ∧ (t = α ∨ ∃ h : t < A.length, key y < key A[t])) ∧ Hid (RowI wr g (P ++ A ++ [y] ++ Q) rest) ∧ Hid (w.grownBy wr (some g))) (fun iv jv _ => (intOf jv - intOf iv).toNat)
  case atStart => exact ⟨a, m, 0, α, rfl, rfl, Nat.le_refl _, ham, Nat.le_refl _, ⟨rfl, Hm.out⟩, ⟨.inl rfl, .inl rfl⟩, H.out, grown_self _ _⟩
  case round =>
    clear H
    obtain ⟨i, j, s, t, rfl, rfl, hmi, hij, hjb, hst, hk, hr, hg⟩ := hrel
    by_cases hlt : i < j
    · obtain ⟨q, hq⟩ : ∃ q, q = (i + j) / 2 - a := ⟨_, rfl⟩
      have hh : ((i : Int) + (j : Int)) / 2 = ((a + q : Nat) : Int) := by omega
      have hq1 : i ≤ a + q ∧ a + q < j := by omega
      have hqA : q < A.length := by have := hst.out; have := Hα.out; have := Hm.out; omega
      have hrow := hr.out
      have e : P ++ A ++ [y] ++ Q = (P ++ A.take q) ++ A[q] :: (A.drop (q + 1) ++ y :: Q) := by
        have : A = A.take q ++ A[q] :: A.drop (q + 1) := by rw [← List.drop_eq_getElem_cons hqA, List.take_append_drop]
        conv => lhs; rw [this]
        simp only [List.append_assoc, List.cons_append, List.nil_append]
      rw [e] at hrow
      have hlq : (P ++ A.take q).length = a + q := by rw [List.length_append, List.length_take]; have := HL.out; omega
      have hlm : (P ++ A.take q).length + 1 + (A.drop (q + 1)).length = m := by rw [hlq, List.length_drop]; have := Hα.out; have := Hm.out; omega
      have c1 := hrow.cell (mid_at _ _ _)
      have c2 := hrow.cell (mid_at2 _ _ _ _ _)
      rw [hlq] at c1
      rw [hlm] at c2
      have hdq : dom A[q] := Hdom.out _ (List.getElem_mem hqA)
      have Hq1 := Lib.hid hq1
      by_cases hlt2 : key y < key A[q]
      · have HCr := Lib.hid (fun n => HC.out.lt (grown_trans Hw0.out hg.out) Hy.out hdq hlt2 n)
        have Hlt2 : Hid (∃ h : q < A.length, key y < key A[q]) := ⟨hqA, hlt2⟩
        generalize A[q] = u at c1 HCr
        have hmqN : a + q < N := by omega
        clear hrow e hlq hlm hdq hlt2 hq hq1 hqA
        go_wp2_with fail
        go_quiet ((go_at_call 37; exact Calls.quiet_of (HCr.out _)))
        go_wp2_with fail
        refine ⟨⟨i, a + q, s, q, rfl, by first | rfl | (rw [Int.natCast_add]), hmi, Hq1.out.1, by have := Hq1.out; omega, ⟨hst.out.1, rfl⟩, ⟨hk.out.1, .inr Hlt2.out⟩, RowI.drewN hr.out _, only_drewN hg.out _⟩, ?_⟩
        simp [intOf]; have := Hq1.out; omega
      · obtain ⟨c, hc0, hcc⟩ := HC.out.ge (grown_trans Hw0.out hg.out) Hy.out hdq hlt2
        have hcd : (!decide (c < 0)) = true := by simp; omega
        have HCr := Lib.hid hcc
        have Hlt2 : Hid (∃ h : q + 1 - 1 < A.length, key A[q + 1 - 1] ≤ key y) := ⟨by omega, Nat.le_of_not_lt hlt2⟩
        generalize A[q] = u at c1 HCr hcc
        have hmqN : a + q < N := by omega
        clear hrow e hlq hlm hdq hlt2 hq hq1 hqA hcc
        go_wp2_with fail
        go_quiet ((go_at_call 37; exact Calls.quiet_of (HCr.out _)))
        go_wp2_with fail
        refine ⟨⟨a + q + 1, j, q + 1, t, by rw [Int.natCast_add]; rfl, rfl, by omega, Hq1.out.2, hjb, ⟨by omega, hst.out.2⟩, ⟨.inr Hlt2.out, hk.out.2⟩, RowI.drewN hr.out _, only_drewN hg.out _⟩, ?_⟩
        simp [intOf]; have := Hq1.out; omega
    · have hij2 : i = j := by omega
      subst hij2
      have hts : t = s := by have := hst.out; omega
      subst hts
      have hiz : i = a + t := hst.out.1
      have htA : t ≤ A.length := by have := hst.out; have := Hα.out; have := Hm.out; omega
      have HtA := Lib.hid htA
      have Hz := Lib.hid hiz
      clear hiz htA hlt
      go_wp2_with fail
      obtain ⟨wo, hwo⟩ : ∃ wo : World, wo = wr := ⟨_, rfl⟩
      subst hwo
      go_loopw [17] (fun kv wr => ∃ (k q : Nat), kv = .int .i64 (k : Nat) ∧ i ≤ k ∧ k ≤ m ∧ Hid (k = a + q) ∧ Hid (RowI wr g (P ++ A.take q ++ [y] ++ A.drop q ++ Q) rest) ∧ Hid (w.grownBy wr (some g))) (fun kv _ => (intOf kv).toNat)
      case atStart => exact ⟨m, α, rfl, by omega, Nat.le_refl _, Hm.out, by have := hr.out; have e := Hα.out; show RowI _ _ _ _; rw [e]; simpa using this, hg⟩
      case round =>
        obtain ⟨k, q, rfl, hik, hkm, hkq, hr2, hg2⟩ := hrel
        by_cases hlt3 : i < k
        · obtain ⟨p, hp⟩ : ∃ p, q = p + 1 := ⟨q - 1, by have := hkq.out; omega⟩
          subst hp
          obtain ⟨l, hl⟩ : ∃ l, k = l + 1 := ⟨k - 1, by omega⟩
          subst hl
          have hpA : p < A.length := by have := hkq.out; have := Hα.out; have := Hm.out; omega
          have hrow := hr2.out
          have e : P ++ A.take (p + 1) ++ [y] ++ A.drop (p + 1) ++ Q = (P ++ A.take p) ++ A[p] :: ([] ++ y :: (A.drop (p + 1) ++ Q)) := by
            rw [List.take_succ_eq_append_getElem hpA]; simp only [List.append_assoc, List.cons_append, List.nil_append]
          rw [e] at hrow
          have hl1 : (P ++ A.take p).length = l := by rw [List.length_append, List.length_take]; have := HL.out; have := hkq.out; omega
          have c1 := hrow.cell (mid_at _ _ _)
          have c2 := hrow.cell (mid_at2 _ _ _ _ _)
          rw [hl1] at c1
          rw [hl1, List.length_nil, Nat.add_zero] at c2
          have f1 := hrow.free l
          have f2 := hrow.free (l + 1)
          have hnext : ∀ W : World, (W.heap = ((wr.setCell ⟨g, l, none⟩ (.int .i64 (y : Nat))).setCell ⟨g, l + 1, none⟩ (.int .i64 (A[p] : Nat))).heap ∨ W.heap = ((wr.setCell ⟨g, l + 1, none⟩ (.int .i64 (A[p] : Nat))).setCell ⟨g, l, none⟩ (.int .i64 (y : Nat))).heap) → RowI W g (P ++ A.take p ++ [y] ++ A.drop p ++ Q) rest := fun W hW => by
            have e3 : P ++ A.take p ++ [y] ++ A.drop p ++ Q = (P ++ A.take p) ++ y :: ([] ++ A[p] :: (A.drop (p + 1) ++ Q)) := by
              rw [List.drop_eq_getElem_cons hpA]; simp only [List.append_assoc, List.cons_append, List.nil_append]
            rw [e3]
            rcases hW with hW | hW
            · exact hrow.swap l (l + 1) hl1.symm (by rw [hl1]; simp) hW
            · exact hrow.swap' l (l + 1) hl1.symm (by rw [hl1]; simp) hW
          have HNx := Lib.hid hnext
          generalize A[p] = u at c1 HNx
          have hkN : l + 1 < N := by omega
          clear hrow e hl1 hnext hpA
          go_wp2_with fail
          go_region
          all_goals
            go_wp2_with fail
            refine ⟨⟨l, p, rfl, by omega, by omega, by have := hkq.out; show _ = _; omega, HNx.out _ (by first | exact .inl rfl | exact .inr rfl), ?_⟩, by simp [intOf]⟩
            first | exact only_drew (only_setCell (only_setCell hg2.out _ _) _ _) | exact only_setCell (only_setCell (only_drew hg2.out) _ _) _ _
        · have hkz2 : k = i := by omega
          have hqt : q = t := by have := hkq.out; have := Hz.out; omega
          subst hqt
          clear hkz2
          go_wp2_with fail
          refine bodyPost_ret (results_none rfl _ _ _) rfl ?_
          refine ⟨rfl, A.take q ++ y :: A.drop q, by have := hr2.out; simpa using this, ?_, ?_, hg2⟩
          · have h1 : (A.take q ++ y :: A.drop q).Perm (y :: (A.take q ++ A.drop q)) := List.perm_middle
            rw [List.take_append_drop] at h1
            exact h1.trans (List.perm_append_singleton y A).symm
          · obtain ⟨hk1, hk2⟩ := hk.out
            refine srt_insert (by rw [List.take_append_drop]; exact HA.out) ?_ ?_
            · rcases hk1 with h0 | ⟨h1, h2⟩
              · left; rw [h0]; rfl
              · by_cases hq0 : q = 0
                · left; rw [hq0]; rfl
                · right
                  refine ⟨q - 1, by rw [List.length_take]; omega, by rw [List.length_take]; omega, ?_⟩
                  rw [List.getElem_take]
                  exact h2
            · intro z hz
              obtain ⟨p, hp, rfl⟩ := List.getElem_of_mem hz
              rw [List.length_drop] at hp
              rcases hk2 with h0 | ⟨h1, h2⟩
              · have := Hα.out; omega
              · rw [List.getElem_drop]
                exact Nat.le_trans (Nat.le_of_lt h2) (srt_get HA.out (by omega) (by omega))
end Go.Proofs.YtidmmcgnghdfdaaDoor
