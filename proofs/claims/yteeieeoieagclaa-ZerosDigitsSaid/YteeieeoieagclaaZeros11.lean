/- What the reference's Decode does. -/
import Derived.Test.YteeieeoieagclaaZeros10
namespace Go.Proofs.Yteeieeoieagclaa
open Go.RowKit ZerosPlain
set_option linter.unusedVariables false

theorem cap_small {n : Nat} (h : n ≤ 65536) : cap n = n := by unfold cap; omega
theorem bcells_zeros (out : List UInt8) (k : Nat) : bcells out ++ List.replicate k (Value.int .u8 0) = bcells (out ++ List.replicate k 0) := by
  rw [bcells_append]; congr 1; simp [bcells]

set_option maxRecDepth 100000 in
set_option maxHeartbeats 8000000 in
theorem rdecode_any (v : Value) (xs : List Nat) (w : World) (hv : NumsAt w v xs) (hx64 : ∀ x ∈ xs, x < 18446744073709551616) (hreach : xs.length * 8 ≤ 140737488351232) :
    Calls Try.prog 10 #[v] w fun e w' => e = decE (decR xs) ∧ Below w.heap.size w w' := by
  obtain ⟨a, cp, rfl, hm, hc0⟩ := hv
  have Hc : Hid (∀ W : World, Below w.heap.size w W → ∀ i (hi : i < xs.length), ∃ x, a = some x ∧ W.cell? (x.add i) = some (.int .u64 (xs[i] : Nat))) := fun W hb => NumsAt.bel hc0 hb
  have H64 := Lib.hid hx64
  obtain ⟨n, hn⟩ : ∃ n, n = xs.length := ⟨_, rfl⟩
  rw [← hn] at hreach ⊢
  have hm' : (n : Int) * 8 ≤ 140737488351232 := by omega
  have Hn := Lib.hid hn
  obtain ⟨R, hR⟩ : ∃ R, R = decR xs := ⟨_, rfl⟩
  have HR0 : Hid (decG (xs.drop 0) [] [] 0 = R) := by show _ = _; rw [hR]; rfl
  rw [← hR]
  obtain ⟨B, hB⟩ : ∃ B, B = w.heap.size := ⟨_, rfl⟩
  rw [← hB] at Hc ⊢
  have HBe := Lib.hid hB
  have HBl : Hid (Below B w w) := Below.refl _ _
  have HBw : Hid (B ≤ w.heap.size) := by show _ ≤ _; omega
  clear hm hc0 hx64 hn hR hB hreach
  go_enter Try.func10, Try.ntmps10
  go_wp2_with fail
  go_loopw [5, 6, 12] (fun ov rv iv wr => ∃ (i L cp : Nat) (ao : Option Addr) (out : List UInt8) (run : List Nat), iv = .int .i64 (i : Nat) ∧ i ≤ n ∧ ov = .slice ao L cp ∧ L ≤ 65536 ∧ Hid (L = out.length) ∧ Hid (Owns wr B 5 (.slice ao L cp) (bcells out)) ∧ Hid (Owns wr B 31 rv (ncells run)) ∧ Hid (run.length ≤ i ∧ ∀ x ∈ run, x < 2) ∧ Hid (decG (xs.drop i) out run i = R) ∧ Hid (Below B w wr)) (fun _ _ iv _ => n - (intOf iv).toNat)
  case atStart => exact ⟨0, 0, 0, none, [], [], rfl, Nat.zero_le _, rfl, Nat.zero_le _, rfl, Owns.nil _ _ _, Owns.nil _ _ _, ⟨Nat.zero_le _, by simp⟩, HR0, HBl⟩
  case round =>
    clear HR0 HBl
    obtain ⟨i, L, cp, ao, out, run, rfl, hi, rfl, hL, hLo, hov, hrv, hrun, hdec, hbr⟩ := hrel
    have HPw : Hid (B ≤ wr.heap.size) := Nat.le_trans HBw.out hbr.out.size
    have hi8 : i * 8 ≤ 140737488351232 := by omega
    have HN := Lib.hid (rnumber_any u6 run wr (NumsAt.of_owns hrv.out (by have := hrun.out.1; unfold maxLen; omega)) hrun.out.2)
    have hw1 : IntKind.i64.wrap (65536 - (L : Int)) = 65536 - (L : Int) := IntWalk.i64_in _ (by omega)
    have hw2 : IntKind.u64.wrap (65536 - (L : Int)) = 65536 - (L : Int) := wrap64u_in _ (by omega) (by omega)
    by_cases hlt : i < n
    · have hiL : i < xs.length := by have := Hn.out; omega
      obtain ⟨x, rfl, hx⟩ := Hc.out wr hbr.out i hiL
      have hc64 := H64.out xs[i] (List.getElem_mem hiL)
      have hD := hdec.out
      rw [List.drop_eq_getElem_cons hiL, decG] at hD
      generalize xs[i] = c at hx hc64 hD
      have HC64 := Lib.hid hc64
      clear hiL Hc hdec hc64
      by_cases hc2 : c < 2
      · rw [if_pos hc2] at hD
        have HD := Lib.hid hD
        have Hl1 : Hid (((ncells run).length + 1) * 8 ≤ 140737488355328) := by show _ ≤ _; rw [ncells_length]; have := hrun.out.1; omega
        have Hl2 : Hid ((ncells run).length + 1 ≤ maxLen) := by show _ ≤ _; rw [ncells_length]; have := hrun.out.1; unfold maxLen; omega
        clear hD
        go_wp2_with (first
          | (at_builtin; refine wpList_add1 rfl (.tmp 19) (.tmp 21) 22 rfl B 31 (.int .u64 0) 8 elemNums _ (ncells run) rfl hrv.out (.int .u64 (c : Nat)) rfl rfl Hl1.out Hl2.out HPw.out ?_; intro g cap w2 ho2 hg2; have HO2 := Lib.hid ho2; have HG2 := Lib.hid hg2; clear ho2 hg2))
        refine ⟨⟨i + 1, L, cp, ao, out, run ++ [c], by rw [Int.natCast_add]; rfl, by omega, rfl, hL, hLo, hov.out.other hrv.out (by decide) HG2.out, ?_, ⟨by have := hrun.out.1; simp; omega, ?_⟩, HD.out, hbr.out.trans (HG2.out.below hrv.out HPw.out)⟩, by simp [intOf]; omega⟩
        · show Owns _ _ _ _ _
          rw [ncells_append]; exact HO2.out
        · intro y hy
          rcases List.mem_append.1 hy with hy | hy
          · exact hrun.out.2 y hy
          · rw [List.mem_singleton.1 hy]; exact hc2
      · rw [if_neg hc2] at hD
        by_cases hfull : 65536 < out.length + num run
        · rw [if_pos hfull] at hD
          have HD := Lib.hid hD
          obtain ⟨C, hC⟩ : ∃ C, C = cap (num run) := ⟨_, rfl⟩
          rw [← hC] at HN
          have hCb : 65536 - (L : Int) < (C : Int) := by have := hLo.out; rw [hC]; unfold cap; omega
          clear hD hfull hC
          go_wp2_with (first
            | (go_at_call 21; refine HN.out.mono ?_; rintro e w1 ⟨rfl, rfl⟩)
            | fail)
          go_ret3
          rw [← HD.out]
          exact ⟨rfl, hbr.out⟩
        · rw [if_neg hfull] at hD
          have hC : cap (num run) = num run := cap_small (by omega)
          rw [hC] at HN
          have hCb : (num run : Int) ≤ 65536 - (L : Int) := by have := hLo.out; omega
          have Hl1 : Hid (((bcells out).length + num run) * 1 ≤ 140737488355328) := by show _ ≤ _; rw [bcells_length]; omega
          have Hl2 : Hid ((bcells out).length + num run ≤ maxLen) := by show _ ≤ _; rw [bcells_length]; unfold maxLen; omega
          obtain ⟨N, hN⟩ : ∃ N, N = L + num run := ⟨_, rfl⟩
          have HNe : Hid (N = (bcells out).length + num run) := by show _ = _; rw [bcells_length, hN, hLo.out]
          have hN2 : N ≤ 65536 := by omega
          have hNo : out.length + num run = N := by rw [hN, hLo.out]
          rw [hNo] at hD
          have hz := bcells_zeros out (num run)
          obtain ⟨O, hO⟩ : ∃ O, O = out ++ List.replicate (num run) 0 := ⟨_, rfl⟩
          rw [← hO] at hz hD
          have HOl : Hid (O.length = N) := by show _ = _; rw [hO, ← hNo]; simp
          have Hz := Lib.hid hz
          have HDD := Lib.hid hD
          obtain ⟨q, hq⟩ : ∃ q, q = num run := ⟨_, rfl⟩
          rw [← hq] at HN hCb Hl1 Hl2 HNe Hz
          clear hD hfull hC hNo hO hz hN hq
          have HZ : Hid (∀ (w1 : World) (a2 : Option Addr) (c2 : Nat), Owns w1 B 5 (.slice a2 N c2) (bcells out ++ List.replicate q (.int .u8 0)) → Grew wr (.slice ao L cp) w1 (.slice a2 N c2) → Owns w1 B 5 (.slice a2 N c2) (bcells O) ∧ Below B w w1 ∧ B ≤ w1.heap.size) := fun w1 a2 c2 h1 h2 => by
            rw [Hz.out] at h1
            exact ⟨h1, hbr.out.trans (h2.below hov.out HPw.out), Nat.le_trans HPw.out h2.grown.size⟩
          by_cases hcode : 257 < c
          · have HD : Hid (([], 0, 7) = R) := by show _ = _; have := HDD.out; rwa [if_pos hcode] at this
            clear HDD
            go_wp2_with (first
              | (go_at_call 21; refine HN.out.mono ?_; rintro e w1 ⟨rfl, rfl⟩)
              | (at_builtin; refine wpList_zeros' rfl (.tmp 31) (.tmp 32) 38 31 rfl .u64 .u64 Try.underlying31 B 5 (.int .u8 0) 1 elemB rfl rfl _ (bcells out) rfl hov.out q rfl Hl1.out Hl2.out HPw.out N HNe.out ?_; intro a2 c2 w2 ho2 hg2; have HO2 := Lib.hid (HZ.out w2 a2 c2 ho2 hg2); clear ho2 hg2))
            go_ret3
            rw [← HD.out]
            exact ⟨rfl, HO2.out.2.1⟩
          · by_cases hend : c = 257
            · subst hend
              have HD : Hid ((O, i + 1, 0) = R) := by show _ = _; have := HDD.out; rwa [if_neg hcode, if_pos rfl] at this
              have hx' : wr.cell? (x.add i) = some (.int .u64 257) := hx
              clear HDD hcode hc2 hx
              go_wp2_with (first
                | (go_at_call 21; refine HN.out.mono ?_; rintro e w1 ⟨rfl, rfl⟩)
                | (at_builtin; refine wpList_zeros' rfl (.tmp 31) (.tmp 32) 38 31 rfl .u64 .u64 Try.underlying31 B 5 (.int .u8 0) 1 elemB rfl rfl _ (bcells out) rfl hov.out q rfl Hl1.out Hl2.out HPw.out N HNe.out ?_; intro a2 c2 w2 ho2 hg2; have HO2 := Lib.hid (HZ.out w2 a2 c2 ho2 hg2); clear ho2 hg2)
                | ((with_reducible show wpList _ _ _ _ _ _); refine wpList_conv_owned rfl 38 9 5 (.tmp 38) rfl Try.underlying38 Try.underlying5 Try.underlying9 B _ O rfl HO2.out.1 ?_))
              go_ret3
              rw [← HD.out]
              exact ⟨rfl, HO2.out.2.1⟩
            · have hc257 : c < 257 := by omega
              have hce : ((c : Int) == 257) = false := by simp; omega
              by_cases hbrim : N = 65536
              · have HD : Hid (([], 0, 8) = R) := by show _ = _; have := HDD.out; rwa [if_neg hcode, if_neg hend, if_pos hbrim] at this
                have hNb : ((N : Int) == 65536) = true := by simp; omega
                clear HDD hcode hend hbrim
                go_wp2_with (first
                  | (go_at_call 21; refine HN.out.mono ?_; rintro e w1 ⟨rfl, rfl⟩)
                  | (at_builtin; refine wpList_zeros' rfl (.tmp 31) (.tmp 32) 38 31 rfl .u64 .u64 Try.underlying31 B 5 (.int .u8 0) 1 elemB rfl rfl _ (bcells out) rfl hov.out q rfl Hl1.out Hl2.out HPw.out N HNe.out ?_; intro a2 c2 w2 ho2 hg2; have HO2 := Lib.hid (HZ.out w2 a2 c2 ho2 hg2); clear ho2 hg2))
                go_ret3
                rw [← HD.out]
                exact ⟨rfl, HO2.out.2.1⟩
              · have HD : Hid (decG (xs.drop (i + 1)) (O ++ [UInt8.ofNat (c - 1)]) [] (i + 1) = R) := by show _ = _; have := HDD.out; rwa [if_neg hcode, if_neg hend, if_neg hbrim] at this
                have hNb : ((N : Int) == 65536) = false := by simp; omega
                have hN3 : N < 65536 := by omega
                have Hl3 : Hid (((bcells O).length + 1) * 1 ≤ 140737488355328) := by show _ ≤ _; rw [bcells_length, HOl.out]; omega
                have Hl4 : Hid ((bcells O).length + 1 ≤ maxLen) := by show _ ≤ _; rw [bcells_length, HOl.out]; unfold maxLen; omega
                have hxc : (UInt8.ofNat (c - 1)).toNat = c - 1 := by rw [UInt8.toNat_ofNat', Nat.mod_eq_of_lt (by omega)]
                obtain ⟨d, hd⟩ : ∃ d, d = c - 1 := ⟨_, rfl⟩
                have hxq : (c : Int) - 1 = (d : Int) := by omega
                have hq8 : IntKind.u8.wrap (d : Int) = (d : Int) := by rw [IntKind.wrap_u8]; omega
                rw [← hd] at hxc HD
                have Hxc := Lib.hid hxc
                clear HDD hcode hend hbrim hxc hd
                go_wp2_with (first
                  | (go_at_call 21; refine HN.out.mono ?_; rintro e w1 ⟨rfl, rfl⟩)
                  | (at_builtin; refine wpList_zeros' rfl (.tmp 31) (.tmp 32) 38 31 rfl .u64 .u64 Try.underlying31 B 5 (.int .u8 0) 1 elemB rfl rfl _ (bcells out) rfl hov.out q rfl Hl1.out Hl2.out HPw.out N HNe.out ?_; intro a2 c2 w2 ho2 hg2; have HO2 := Lib.hid (HZ.out w2 a2 c2 ho2 hg2); clear ho2 hg2)
                  | (at_builtin; refine wpList_add1 rfl (.tmp 45) (.tmp 49) 38 rfl B 5 (.int .u8 0) 1 elemB _ (bcells O) rfl HO2.out.1 (.int .u8 (d : Nat)) rfl rfl Hl3.out Hl4.out HO2.out.2.2 ?_; intro g cap w3 ho3 hg3; have HO3 := Lib.hid ho3; have HG3 := Lib.hid hg3; clear ho3 hg3))
                have e0 : bcells (O ++ [UInt8.ofNat d]) = bcells O ++ [.int .u8 (d : Nat)] := by
                  rw [bcells_append]; congr 1
                  show [Value.int .u8 ((UInt8.ofNat d).toNat : Int)] = _
                  rw [Hxc.out]
                refine ⟨⟨i + 1, (bcells O).length + 1, cap, some ⟨g, 0, none⟩, O ++ [UInt8.ofNat d], [], by rw [Int.natCast_add]; rfl, by omega, rfl, by rw [bcells_length, HOl.out]; omega, by show _ = _; rw [bcells_length]; simp, ?_, Owns.nil _ _ _, ⟨Nat.zero_le _, by simp⟩, HD.out, HO2.out.2.1.trans (HG3.out.below HO2.out.1 HO2.out.2.2)⟩, by simp [intOf]; omega⟩
                show Owns _ _ _ _ _
                rw [e0]
                exact HO3.out
    · have hin : i = n := by omega
      have hnil : xs.drop i = [] := List.drop_of_length_le (by have := Hn.out; omega)
      have hD := hdec.out
      rw [hnil, decG] at hD
      clear hin hnil hdec Hc
      by_cases hfull : 65536 < out.length + num run
      · rw [if_pos hfull] at hD
        have HD := Lib.hid hD
        obtain ⟨C, hC⟩ : ∃ C, C = cap (num run) := ⟨_, rfl⟩
        rw [← hC] at HN
        have hCb : 65536 - (L : Int) < (C : Int) := by have := hLo.out; rw [hC]; unfold cap; omega
        clear hD hfull hC
        go_wp2_with (first
          | (go_at_call 21; refine HN.out.mono ?_; rintro e w1 ⟨rfl, rfl⟩)
          | fail)
        go_ret3
        rw [← HD.out]
        exact ⟨rfl, hbr.out⟩
      · rw [if_neg hfull] at hD
        have HD := Lib.hid hD
        obtain ⟨C, hC⟩ : ∃ C, C = cap (num run) := ⟨_, rfl⟩
        rw [← hC] at HN
        have hCb : (C : Int) ≤ 65536 - (L : Int) := by have := hLo.out; rw [hC]; unfold cap; omega
        clear hD hfull hC
        go_wp2_with (first
          | (go_at_call 21; refine HN.out.mono ?_; rintro e w1 ⟨rfl, rfl⟩)
          | fail)
        go_ret3
        rw [← HD.out]
        exact ⟨rfl, hbr.out⟩
end Go.Proofs.Yteeieeoieagclaa
