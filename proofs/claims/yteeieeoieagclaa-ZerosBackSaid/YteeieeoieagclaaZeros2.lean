/- What the two digits do. -/
import Derived.Test.YteeieeoieagclaaZeros1
import Derived.Test.YteeieeoieagclaaSame
import Derived.Test.YteeieeoieagclaaKit3
namespace Go.Proofs.Yteeieeoieagclaa
open Go.RowKit ZerosPlain
set_option linter.unusedVariables false

def ncells (l : List Nat) : List Value := l.map fun n => .int .u64 (n : Nat)
theorem ncells_length (l : List Nat) : (ncells l).length = l.length := by simp [ncells]
theorem ncells_append (l m : List Nat) : ncells (l ++ m) = ncells l ++ ncells m := by simp [ncells]
theorem elemNums : ElemOf Try.prog 22 31 (.int .u64 0) 8 := ⟨Try.underlying22, by kernel_rfl, rfl⟩
theorem NumsAt.of_owns {w : World} {B : Nat} {v : Value} {l : List Nat} (h : Owns w B 31 v (ncells l)) (hl : l.length ≤ maxLen) : NumsAt w v l := by
  rcases h.shape with ⟨rfl, h2⟩ | ⟨g, cap, rfl, h2, h3, h4, h5⟩
  · have : l = [] := by simpa [ncells] using h2
    subst this
    exact ⟨none, 0, rfl, Nat.zero_le _, fun i hi => by simp at hi⟩
  · refine ⟨some ⟨g, 0, none⟩, cap, by rw [ncells_length], hl, fun i hi => ⟨_, rfl, ?_⟩⟩
    rw [add_plain, Nat.zero_add, h.cell i (by rw [ncells_length]; exact hi)]
    simp [ncells]

set_option maxRecDepth 100000 in
set_option maxHeartbeats 2000000 in
theorem digits_any (B : Nat) (v : Value) (l : List Nat) (n : Nat) (w : World) (hv : Owns w B 31 v (ncells l)) (hB : B ≤ w.heap.size) (hl : l.length + n ≤ 1073741824) (hn : n ≤ 65537) :
    Calls Try.prog 17 #[v, .int .u64 (n : Nat)] w fun e w' => ∃ v', e = .returned v' ∧ Owns w' B 31 v' (ncells (l ++ dg n)) ∧ Below B w w' ∧ Grew w v w' v' := by
  go_enter Try.func17, Try.ntmps17
  go_wp2
  go_loopw [0, 1] (fun vv nv wr => ∃ (m : Nat) (k : List Nat), nv = .int .u64 (m : Nat) ∧ m ≤ n ∧ Hid (k.length + m ≤ l.length + n) ∧ Hid (k ++ dg m = l ++ dg n) ∧ Hid (Owns wr B 31 vv (ncells k)) ∧ Hid (Below B w wr) ∧ Hid (Grew w v wr vv)) (fun _ nv _ => (intOf nv).toNat)
  case atStart => exact ⟨n, l, rfl, Nat.le_refl _, Nat.le_refl _, rfl, hv, Below.refl _ _, Grew.refl _ _⟩
  case round =>
    obtain ⟨m, k, rfl, hm, hk, hd, ho, hb, hok⟩ := hrel
    by_cases hlt : 0 < m
    · have h1 : ((m : Int) - 1) % 2 = (((m - 1) % 2 : Nat) : Int) := by omega
      have h2 : ((m : Int) - 1) / 2 = (((m - 1) / 2 : Nat) : Int) := by omega
      have Hd2 : Hid (k ++ [(m - 1) % 2] ++ dg ((m - 1) / 2) = l ++ dg n) := by
        show _ = _
        rw [← hd.out, dg_pos hlt]; simp
      obtain ⟨r, hr⟩ : ∃ r, r = (m - 1) % 2 := ⟨_, rfl⟩
      obtain ⟨q, hq⟩ : ∃ q, q = (m - 1) / 2 := ⟨_, rfl⟩
      rw [← hr, ← hq] at Hd2
      rw [← hr] at h1
      rw [← hq] at h2
      have hqm : q < m := by omega
      have Hq := Lib.hid hqm
      clear hr hq
      have Hle1 : Hid (((ncells k).length + 1) * 8 ≤ 140737488355328) := by show _ ≤ _; rw [ncells_length]; have := hk.out; omega
      have Hle2 : Hid ((ncells k).length + 1 ≤ maxLen) := by show _ ≤ _; rw [ncells_length]; unfold maxLen; have := hk.out; omega
      go_wp2_with (first
        | (at_builtin; refine wpList_add1 rfl (.tmp 10) (.tmp 14) 22 rfl B 31 (.int .u64 0) 8 elemNums _ (ncells k) rfl ho.out (.int .u64 (r : Nat)) rfl rfl Hle1.out Hle2.out (Nat.le_trans hB hb.out.size) ?_; intro g cap w1 ho1 hg1; have HO1 := Lib.hid ho1; have HG1 := Lib.hid hg1; clear ho1 hg1))
      refine ⟨⟨q, k ++ [r], by rw [h2], by omega, by have := hk.out; show _ ≤ _; rw [List.length_append]; simp; omega, Hd2, ?_, hb.out.trans (HG1.out.below ho.out (Nat.le_trans hB hb.out.size)), hok.out.trans HG1.out⟩, by rw [h2]; simp [intOf]; omega⟩
      show Owns _ _ _ _ _
      rw [ncells_append]
      exact HO1.out
    · have hm0 : m = 0 := by omega
      subst hm0
      go_wp2_with fail
      go_ret
      refine ⟨u0, rfl, ?_, hb.out, hok.out⟩
      rw [← hd.out, dg_zero, List.append_nil]
      exact ho.out

set_option maxRecDepth 100000 in
set_option maxHeartbeats 2000000 in
theorem rdigits_any (B n : Nat) (w : World) (hB : B ≤ w.heap.size) (hn : n ≤ 65537) :
    Calls Try.prog 18 #[.int .u64 (n : Nat)] w fun e w' => ∃ v', e = .returned v' ∧ Owns w' B 31 v' (ncells (dg n)) ∧ Below B w w' ∧ Grew w (.slice none 0 0) w' v' := by
  go_enter Try.func18, Try.ntmps18
  go_wp2
  go_loopw [0, 3] (fun nv vv wr => ∃ (m : Nat) (k : List Nat), nv = .int .u64 (m : Nat) ∧ m ≤ n ∧ Hid (k.length + m ≤ n) ∧ Hid (k ++ dg m = dg n) ∧ Hid (Owns wr B 31 vv (ncells k)) ∧ Hid (Below B w wr) ∧ Hid (Grew w (.slice none 0 0) wr vv)) (fun nv _ _ => (intOf nv).toNat)
  case atStart => exact ⟨n, [], rfl, Nat.le_refl _, by show _ ≤ _; simp, rfl, Owns.nil _ _ _, Below.refl _ _, Grew.refl _ _⟩
  case round =>
    obtain ⟨m, k, rfl, hm, hk, hd, ho, hb, hok⟩ := hrel
    by_cases hlt : 0 < m
    · have Hd2 : Hid (k ++ [(m - 1) % 2] ++ dg ((m - 1) / 2) = dg n) := by
        show _ = _
        rw [← hd.out, dg_pos hlt]; simp
      have Hle1 : Hid (((ncells k).length + 1) * 8 ≤ 140737488355328) := by show _ ≤ _; rw [ncells_length]; have := hk.out; omega
      have Hle2 : Hid ((ncells k).length + 1 ≤ maxLen) := by show _ ≤ _; rw [ncells_length]; unfold maxLen; have := hk.out; omega
      by_cases hodd : m % 2 = 1
      · have hp : (m : Int) % 2 = 1 := by omega
        have e1 : (m - 1) % 2 = 0 := by omega
        have e2 : ((m : Int) - 1) / 2 = (((m - 1) / 2 : Nat) : Int) := by omega
        rw [e1] at Hd2
        obtain ⟨q, hq⟩ : ∃ q, q = (m - 1) / 2 := ⟨_, rfl⟩
        rw [← hq] at Hd2 e2
        have hqm : q < m := by omega
        clear hq e1 hodd
        go_wp2_with (first
          | (at_builtin; refine wpList_add1 rfl (.tmp 10) (.tmp 13) 22 rfl B 31 (.int .u64 0) 8 elemNums _ (ncells k) rfl ho.out (.int .u64 (0 : Nat)) rfl rfl Hle1.out Hle2.out (Nat.le_trans hB hb.out.size) ?_; intro g cap w1 ho1 hg1; have HO1 := Lib.hid ho1; have HG1 := Lib.hid hg1; clear ho1 hg1))
        refine ⟨⟨q, k ++ [0], by rw [e2], by omega, by have := hk.out; show _ ≤ _; rw [List.length_append]; simp; omega, Hd2, ?_, hb.out.trans (HG1.out.below ho.out (Nat.le_trans hB hb.out.size)), hok.out.trans HG1.out⟩, by rw [e2]; simp [intOf]; omega⟩
        show Owns _ _ _ _ _
        rw [ncells_append]
        exact HO1.out
      · have hp : (m : Int) % 2 = 0 := by omega
        have e1 : (m - 1) % 2 = 1 := by omega
        have e2 : ((m : Int) - 2) / 2 = (((m - 1) / 2 : Nat) : Int) := by omega
        have hm2 : 2 ≤ (m : Int) := by omega
        rw [e1] at Hd2
        obtain ⟨q, hq⟩ : ∃ q, q = (m - 1) / 2 := ⟨_, rfl⟩
        rw [← hq] at Hd2 e2
        have hqm : q < m := by omega
        clear hq e1 hodd
        go_wp2_with (first
          | (at_builtin; refine wpList_add1 rfl (.tmp 10) (.tmp 13) 22 rfl B 31 (.int .u64 0) 8 elemNums _ (ncells k) rfl ho.out (.int .u64 (1 : Nat)) rfl rfl Hle1.out Hle2.out (Nat.le_trans hB hb.out.size) ?_; intro g cap w1 ho1 hg1; have HO1 := Lib.hid ho1; have HG1 := Lib.hid hg1; clear ho1 hg1))
        refine ⟨⟨q, k ++ [1], by rw [e2], by omega, by have := hk.out; show _ ≤ _; rw [List.length_append]; simp; omega, Hd2, ?_, hb.out.trans (HG1.out.below ho.out (Nat.le_trans hB hb.out.size)), hok.out.trans HG1.out⟩, by rw [e2]; simp [intOf]; omega⟩
        show Owns _ _ _ _ _
        rw [ncells_append]
        exact HO1.out
    · have hm0 : m = 0 := by omega
      subst hm0
      go_wp2_with fail
      go_ret
      refine ⟨u3, rfl, ?_, hb.out, hok.out⟩
      rw [← hd.out, dg_zero, List.append_nil]
      exact ho.out
end Go.Proofs.Yteeieeoieagclaa
