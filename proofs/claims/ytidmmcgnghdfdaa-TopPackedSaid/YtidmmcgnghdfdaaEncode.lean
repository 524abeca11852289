/- What zeros' Encode does. -/
import Derived.Test.YtidmmcgnghdfdaaNums
import Derived.Test.YtidmmcgnghdfdaaZerosPlain2
namespace Go.Proofs.Ytidmmcgnghdfdaa
open Go.RowKit ZerosPlain
set_option linter.unusedVariables false

set_option maxRecDepth 100000 in
set_option maxHeartbeats 2000000 in
theorem digits_any (B : Nat) (v : Value) (l : List Nat) (n : Nat) (w : World) (hv : Owns w B 27 v (ncells l)) (hB : B ≤ w.heap.size) (hl : l.length + n ≤ 1073741824) (hn : n ≤ 65537) :
    Calls Try.prog 10 #[v, .int .u64 (n : Nat)] w fun e w' => ∃ v', e = .returned v' ∧ Owns w' B 27 v' (ncells (l ++ dg n)) ∧ Below B w w' ∧ Grew w v w' v' := by
  go_enter Try.func10, Try.ntmps10
  go_wp2
  go_loopw [0, 1] (fun vv nv wr => ∃ (m : Nat) (k : List Nat), nv = .int .u64 (m : Nat) ∧ m ≤ n ∧ Hid (k.length + m ≤ l.length + n) ∧ Hid (k ++ dg m = l ++ dg n) ∧ Hid (Owns wr B 27 vv (ncells k)) ∧ Hid (Below B w wr) ∧ Hid (Grew w v wr vv)) (fun _ nv _ => (intOf nv).toNat)
  case atStart => exact ⟨n, l, rfl, Nat.le_refl _, Nat.le_refl _, rfl, hv, Below.refl _ _, Grew.refl _ _⟩
  case round =>
    obtain ⟨m, k, rfl, hm, hk, hd, ho, hb, hok⟩ := hrel
    by_cases hlt : 0 < m
    · have h1 : ((m : Int) - 1) % 2 = (((m - 1) % 2 : Nat) : Int) := by omega
      have h2 : ((m : Int) - 1) / 2 = (((m - 1) / 2 : Nat) : Int) := by omega
      have Hd2 : Hid (k ++ [(m - 1) % 2] ++ dg ((m - 1) / 2) = l ++ dg n) := by
        show _ = _
        rw [← hd.out, dg_pos hlt]; simp
      obtain ⟨r, hr⟩ : ∃ r, r = (m - 1) % 2 := ⟨_, rfl⟩
      obtain ⟨q, hq⟩ : ∃ q, q = (m - 1) / 2 := ⟨_, rfl⟩
      rw [← hr, ← hq] at Hd2
      rw [← hr] at h1
      rw [← hq] at h2
      have hqm : q < m := by omega
      have Hq := Lib.hid hqm
      clear hr hq
      have Hle1 : Hid (((ncells k).length + 1) * 8 ≤ 140737488355328) := by show _ ≤ _; rw [ncells_length]; have := hk.out; omega
      have Hle2 : Hid ((ncells k).length + 1 ≤ maxLen) := by show _ ≤ _; rw [ncells_length]; unfold maxLen; have := hk.out; omega
      go_wp2_with (first
        | (at_builtin; refine wpList_add1 rfl (.tmp 10) (.tmp 14) 23 rfl B 27 (.int .u64 0) 8 elemNums _ (ncells k) rfl ho.out (.int .u64 (r : Nat)) rfl rfl Hle1.out Hle2.out (Nat.le_trans hB hb.out.size) ?_; intro g cap w1 ho1 hg1; have HO1 := Lib.hid ho1; have HG1 := Lib.hid hg1; clear ho1 hg1))
      refine ⟨⟨q, k ++ [r], by rw [h2], by omega, by have := hk.out; show _ ≤ _; rw [List.length_append]; simp; omega, Hd2, ?_, hb.out.trans (HG1.out.below ho.out (Nat.le_trans hB hb.out.size)), hok.out.trans HG1.out⟩, by rw [h2]; simp [intOf]; omega⟩
      show Owns _ _ _ _ _
      rw [ncells_append]
      exact HO1.out
    · have hm0 : m = 0 := by omega
      subst hm0
      go_wp2_with fail
      go_ret
      refine ⟨u0, rfl, ?_, hb.out, hok.out⟩
      rw [← hd.out, dg_zero, List.append_nil]
      exact ho.out
theorem drop_cons (s : ByteArray) (i : Nat) (h : i < s.size) : s.data.toList.drop i = s[i] :: s.data.toList.drop (i + 1) := by
  have hl : i < s.data.toList.length := by rw [size_data]; exact h
  rw [List.drop_eq_getElem_cons hl]
  have := data_at s i h
  rw [List.getElem?_eq_getElem hl] at this
  injection this with this
  rw [this]
set_option maxRecDepth 100000 in
set_option maxHeartbeats 4000000 in
theorem encode_any (s : ByteArray) (w : World) (hs : s.size ≤ maxLen) :
    Calls Try.prog 5 #[.string s] w fun e w' => ∃ v, e = .returned (.tuple #[v, .int .i64 (encR s.data.toList).2]) ∧ NumsAt w' v (encR s.data.toList).1 ∧ Below w.heap.size w w' := by
  unfold maxLen at hs
  by_cases hbig : 65536 < s.size
  · have e : encR s.data.toList = ([], 1) := by unfold encR; rw [if_pos (by rw [size_data]; exact hbig)]
    rw [e]
    clear e
    go_enter Try.func5, Try.ntmps5
    go_wp2_with fail
    go_ret2
    exact ⟨_, rfl, ⟨none, 0, rfl, Nat.zero_le _, fun i hi => by simp at hi⟩, Below.refl _ _⟩
  · have e : encR s.data.toList = (encG s.data.toList 0, 0) := by unfold encR; rw [if_neg (by rw [size_data]; exact hbig)]
    rw [e]
    have hle : (s.size : Int) ≤ 65536 := by omega
    clear e hbig hs
    go_enter Try.func5, Try.ntmps5
    go_wp2_with fail
    go_loopw [4, 5, 12] (fun vv nv iv wr => ∃ (i m : Nat) (k : List Nat), iv = .int .i64 (i : Nat) ∧ i ≤ s.size ∧ nv = .int .u64 (m : Nat) ∧ m ≤ i ∧ Hid (k ++ encG (s.data.toList.drop i) m = encG s.data.toList 0) ∧ Hid (Owns wr w.heap.size 27 vv (ncells k)) ∧ Hid (Below w.heap.size w wr)) (fun _ _ iv _ => s.size - (intOf iv).toNat)
    case atStart => exact ⟨0, 0, [], rfl, Nat.zero_le _, rfl, Nat.le_refl _, by show _ = _; simp, Owns.nil _ _ _, Below.refl _ _⟩
    case round =>
      obtain ⟨i, m, k, rfl, hi, rfl, hm, hk, ho, hb⟩ := hrel
      have HLn : Hid (k.length + (encG (s.data.toList.drop i) m).length ≤ 65537) := by
        have h1 := congrArg List.length hk.out
        have h2 := encG_length s.data.toList 0
        rw [size_data] at h2
        rw [List.length_append] at h1
        show _ ≤ _
        omega
      by_cases hlt : i < s.size
      · have hdr := drop_cons s i hlt
        by_cases h0 : s[i] = 0
        · have hz : (s[i].toNat : Int) = 0 := by rw [h0]; rfl
          have Hk2 : Hid (k ++ encG (s.data.toList.drop (i + 1)) (m + 1) = encG s.data.toList 0) := by
            show _ = _
            rw [← hk.out, hdr, encG, if_pos h0]
          clear hdr h0
          go_wp2_with fail
          exact ⟨⟨i + 1, m + 1, k, by rw [Int.natCast_add]; rfl, by omega, by rw [Int.natCast_add]; rfl, by omega, Hk2, ho, hb⟩, by simp [intOf]; omega⟩
        · have hcn : s[i].toNat ≠ 0 := fun e => h0 (by apply UInt8.toNat_inj.1; simpa using e)
          have hc8 := s[i].toNat_lt
          have hz : ¬ (s[i].toNat : Int) = 0 := by omega
          have hz2 : ((s[i].toNat : Int) == 0) = false := by simpa using hz
          have Hk2 : Hid (k ++ dg m ++ [s[i].toNat + 1] ++ encG (s.data.toList.drop (i + 1)) 0 = encG s.data.toList 0) := by
            show _ = _
            rw [← hk.out, hdr, encG, if_neg h0]; simp
          have hlen : (k ++ dg m).length + 1 ≤ 65537 := by
            have h1 := congrArg List.length Hk2.out
            have h2 := encG_length s.data.toList 0
            rw [size_data] at h2
            rw [List.length_append, List.length_append] at h1
            simp only [List.length_singleton] at h1
            omega
          have hkm : k.length + m ≤ 1073741824 := by rw [List.length_append] at hlen; omega
          have HD : Hid (∀ W : World, Owns W w.heap.size 27 u4 (ncells k) → w.heap.size ≤ W.heap.size → Calls Try.prog 10 #[u4, .int .u64 (m : Nat)] W fun e w' => ∃ v', e = .returned v' ∧ Owns w' w.heap.size 27 v' (ncells (k ++ dg m)) ∧ Grew W u4 w' v') := fun W hW hB => by
            refine (digits_any w.heap.size u4 k m W hW hB hkm (by omega)).mono ?_
            rintro e w' ⟨v', h1, h2, _, h3⟩
            exact ⟨v', h1, h2, h3⟩
          have Hl1 : Hid (((ncells (k ++ dg m)).length + [Value.int .u64 ((s[i].toNat + 1 : Nat) : Int)].length) * 8 ≤ 140737488355328) := by show _ ≤ _; rw [ncells_length]; simp only [List.length_singleton]; omega
          have Hl2 : Hid ((ncells (k ++ dg m)).length + [Value.int .u64 ((s[i].toNat + 1 : Nat) : Int)].length ≤ maxLen) := by show _ ≤ _; rw [ncells_length]; simp only [List.length_singleton]; unfold maxLen; omega
          have HBs := Lib.hid hb.out.size
          have HNe : Hid (u4.ownBlock ≠ some wr.heap.size) := fun e => by have := (ho.out.block_lt _ e).2; omega
          have hw1 : IntKind.u64.wrap (s[i].toNat : Int) = (s[i].toNat : Int) := wrap64u_in _ (by omega) (by omega)
          have hw2 : IntKind.u64.wrap ((s[i].toNat : Int) + 1) = ((s[i].toNat + 1 : Nat) : Int) := by rw [wrap64u_in _ (by omega) (by omega)]; rfl
          clear hdr h0 hlen hkm hcn hz
          go_wp2_with fail
          go_region_law (first
            | (refine step_add rfl (.tmp 23) (.tmp 29) 23 rfl w.heap.size 27 (.int .u64 0) 8 elemNums v1 (ncells (k ++ dg m)) (by simp [Act.eval, Act.put]) (by first | exact HO1.out | exact HO1.out.alloc' _) (.slice (some ⟨_, 0, none⟩) 1 1) [.int .u64 ((s[i].toNat + 1 : Nat) : Int)] (by simp [Act.eval, Act.put]; rfl) (by first | exact Src.one (heap_alloc_new _ _) | exact Src.one (HG1.out.row (heap_alloc_new wr _) HNe.out)) (by simp [Value.oneCell']) Hl1.out Hl2.out (by first | exact HB1.out | exact size_alloc_le HB1.out) ?_; intro v2 w2 ho2 hg2; have HO2 := Lib.hid ho2; have HG2 : Hid (Grew wr u4 w2 v2) := (by first | exact HG1.out.of_drew.trans hg2.of_alloc | exact HG1.out.of_drew.of_alloc.trans hg2); clear ho2 hg2)
            | (go_simp; go_wp2_with (go_at_call 10; refine (HD.out _ (by first | exact ho.out.drew | exact (ho.out.alloc' _).drew) (by first | exact HBs.out | exact size_alloc_le HBs.out)).mono ?_; rintro e w1 ⟨v1, rfl, ho1, hg1⟩; have HO1 := Lib.hid ho1; have HB1 : Hid (w.heap.size ≤ w1.heap.size) := Nat.le_trans (by first | exact HBs.out | exact size_alloc_le HBs.out) hg1.grown.size; have HG1 := Lib.hid hg1; clear ho1 hg1)))
          all_goals
            go_wp2_with fail
            refine ⟨⟨i + 1, 0, k ++ dg m ++ [s[i].toNat + 1], by rw [Int.natCast_add]; rfl, by omega, rfl, by omega, Hk2, ?_, hb.out.trans (HG2.out.below ho.out HBs.out)⟩, by simp [intOf]; omega⟩
            show Owns _ _ _ _ _
            rw [ncells_append]
            exact HO2.out
      · have hin : i = s.size := by omega
        have hnil : s.data.toList.drop i = [] := List.drop_of_length_le (by rw [size_data]; omega)
        rw [hnil, encG] at hk HLn
        have hln : (k ++ dg m).length + 1 ≤ 65537 := by have := HLn.out; rw [List.length_append] at this ⊢; simp only [List.length_singleton] at this; omega
        have hkm : k.length + m ≤ 1073741824 := by rw [List.length_append] at hln; omega
        have HD := Lib.hid (digits_any w.heap.size u4 k m wr ho.out hb.out.size hkm (by omega))
        have Hl1 : Hid (((ncells (k ++ dg m)).length + 1) * 8 ≤ 140737488355328) := by show _ ≤ _; rw [ncells_length]; omega
        have Hl2 : Hid ((ncells (k ++ dg m)).length + 1 ≤ maxLen) := by show _ ≤ _; rw [ncells_length]; unfold maxLen; omega
        have Hl3 : Hid ((k ++ dg m ++ [257]).length ≤ maxLen) := by show _ ≤ _; rw [List.length_append]; simp only [List.length_singleton]; unfold maxLen; omega
        clear hnil hin hln hkm HLn
        go_wp2_with (first
          | (go_at_call 10; refine HD.out.mono ?_; rintro e w1 ⟨v1, rfl, ho1, hb1, hg1⟩; have HO1 := Lib.hid ho1; have HB1 := Lib.hid hb1; clear ho1 hb1 hg1)
          | (at_builtin; refine wpList_add1 rfl (.tmp 34) (.tmp 35) 23 rfl w.heap.size 27 (.int .u64 0) 8 elemNums _ (ncells (k ++ dg m)) rfl HO1.out (.int .u64 (257 : Nat)) rfl rfl Hl1.out Hl2.out (Nat.le_trans hb.out.size HB1.out.size) ?_; intro g cap w2 ho2 hg2; have HO2 := Lib.hid ho2; have HG2 := Lib.hid hg2; clear ho2 hg2))
        go_ret2
        rw [← hk.out, ← List.append_assoc]
        refine ⟨.slice (some ⟨g, 0, none⟩) ((ncells (k ++ dg m)).length + 1) cap, rfl, NumsAt.of_owns (B := w.heap.size) ?_ Hl3.out, (hb.out.trans HB1.out).trans (HG2.out.below HO1.out (Nat.le_trans hb.out.size HB1.out.size))⟩
        rw [ncells_append (k ++ dg m) [257]]
        exact HO2.out
theorem encode_k (s : ByteArray) (hs : s.size ≤ maxLen) (r : List Nat × Int) (hr : encR s.data.toList = r) (W : World) :
    Calls Try.prog 5 #[.string s] W fun e w' => ∃ v, e = .returned (.tuple #[v, .int .i64 r.2]) ∧ NumsAt w' v r.1 ∧ Hid (W.grownBy w' none) := by
  subst hr
  refine (encode_any s W hs).mono ?_
  rintro e w' ⟨v, h1, h2, h3⟩
  exact ⟨v, h1, h2, grown_bel h3 none⟩
end Go.Proofs.Ytidmmcgnghdfdaa
