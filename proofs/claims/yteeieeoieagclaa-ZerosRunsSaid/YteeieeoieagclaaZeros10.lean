/- What Decode does. -/
import Derived.Test.YteeieeoieagclaaZeros9
namespace Go.Proofs.Yteeieeoieagclaa
open Go.RowKit ZerosPlain
set_option linter.unusedVariables false

/-- what Decode tells -/
def decE (r : List UInt8 × Nat × Int) : Ending := .returned (.tuple #[.string ⟨r.1.toArray⟩, .int .i64 (r.2.1 : Nat), .int .i64 r.2.2])
theorem addr_end' (B b : Nat) (v : Value) (out : List UInt8) (run : List Nat) (n y : Nat) (w : World) (h : ReaderAt w B b v out n y) (hB : B ≤ w.heap.size) (hr : Run run n y) (ho : out.length ≤ 65536) (hb : out.length + num run ≤ 65536) (N : Nat) (hN : out.length + num run = N) :
    Calls Try.prog 19 #[.pointer (some ⟨b, 0, none⟩), .int .u64 257] w fun e w' => e = .returned (.tuple #[.bool true, .int .i64 0]) ∧ ∃ ao cap, ReaderAt w' B b (.slice ao N cap) (out ++ List.replicate (num run) 0) 0 0 ∧ Below B w w' := by
  refine (addr_end B b v out run n y w h hB hr ho hb).mono ?_
  rintro e w' ⟨rfl, v', hr, hb⟩
  obtain ⟨ao, cap, rfl, _⟩ := hr.own.form
  rw [bcells_length] at hr
  simp only [List.length_append, List.length_replicate, hN] at hr
  exact ⟨rfl, ao, cap, hr, hb⟩

set_option maxRecDepth 100000 in
set_option maxHeartbeats 4000000 in
theorem decode_any (v : Value) (xs : List Nat) (w : World) (hv : NumsAt w v xs) (hx64 : ∀ x ∈ xs, x < 18446744073709551616) :
    Calls Try.prog 9 #[v] w fun e w' => e = decE (decR xs) ∧ Below w.heap.size w w' := by
  obtain ⟨a, cp, rfl, hm, hc0⟩ := hv
  have Hc : Hid (∀ W : World, Below w.heap.size w W → ∀ i (hi : i < xs.length), ∃ x, a = some x ∧ W.cell? (x.add i) = some (.int .u64 (xs[i] : Nat))) := fun W hb => NumsAt.bel hc0 hb
  unfold maxLen at hm
  have H64 := Lib.hid hx64
  obtain ⟨n, hn⟩ : ∃ n, n = xs.length := ⟨_, rfl⟩
  rw [← hn] at hm ⊢
  have hm' : (n : Int) ≤ 9223372036854775807 := by omega
  have Hn := Lib.hid hn
  obtain ⟨R, hR⟩ : ∃ R, R = decR xs := ⟨_, rfl⟩
  have HR0 : Hid (decG (xs.drop 0) [] [] 0 = R) := by show _ = _; rw [hR]; rfl
  rw [← hR]
  clear hm hc0 hx64 hn hR
  go_enter Try.func9, Try.ntmps9
  go_wp2_with fail
  have hP := heap_alloc_new w (.cells #[.slice none 0 0, .int .u64 0, .int .u64 0] 42)
  have hbl := (Below.refl w.heap.size w).alloc (Nat.le_refl _) (.cells #[.slice none 0 0, .int .u64 0, .int .u64 0] 42)
  generalize w.alloc (.cells #[.slice none 0 0, .int .u64 0, .int .u64 0] 42) = w2 at hP hbl ⊢
  obtain ⟨P, hPe⟩ : ∃ P, P = w.heap.size := ⟨_, rfl⟩
  rw [← hPe] at hP hbl ⊢
  have HPe := Lib.hid hPe
  have HRd : Hid (ReaderAt w2 P P (.slice none 0 0) [] 0 0) := ⟨Nat.le_refl _, hP, Owns.nil _ _ _⟩
  have Hbl := Lib.hid hbl
  have HPw : Hid (P ≤ w2.heap.size) := by show _ ≤ _; have := row_lt hP; omega
  clear hPe hbl hP
  go_loopw [13] (fun iv wr => ∃ (i m y : Nat) (vv : Value) (out : List UInt8) (run : List Nat), iv = .int .i64 (i : Nat) ∧ i ≤ n ∧ Hid (ReaderAt wr P P vv out m y) ∧ Hid (Run run m y) ∧ Hid (y < 18446744073709551616) ∧ Hid (out.length ≤ 65536) ∧ Hid (decG (xs.drop i) out run i = R) ∧ Hid (Below P w wr) ∧ Hid (P ≤ wr.heap.size)) (fun iv _ => n - (intOf iv).toNat)
  case atStart => exact ⟨0, 0, 0, .slice none 0 0, [], [], rfl, Nat.zero_le _, HRd, Run.nil, by show _ < _; omega, Nat.zero_le _, HR0, Hbl, HPw⟩
  case round =>
    clear HRd Hbl HPw HR0
    obtain ⟨i, m, y, vv, out, run, rfl, hi, hrd, hrun, hy, hout, hdec, hbr, hPw⟩ := hrel
    by_cases hlt : i < n
    · have hiL : i < xs.length := by have := Hn.out; omega
      obtain ⟨x, rfl, hx⟩ := Hc.out wr (by rw [← HPe.out]; exact hbr.out) i hiL
      have hc64 := H64.out xs[i] (List.getElem_mem hiL)
      have hD := hdec.out
      rw [List.drop_eq_getElem_cons hiL, decG] at hD
      generalize xs[i] = c at hx hc64 hD
      have HC64 := Lib.hid hc64
      clear hiL Hc hdec hc64
      by_cases hc2 : c < 2
      · rw [if_pos hc2] at hD
        have HA := Lib.hid (addr_digit P P vv out run m y c wr hrd.out hPw.out hrun.out hy.out hc2)
        have HD := Lib.hid hD
        clear hD hc2
        go_wp2_with (first
          | (go_at_call 19; refine HA.out.mono ?_; rintro e w1 ⟨rfl, m', y', hr1, hru1, hy1, hb1⟩; have Hr1 := Lib.hid hr1; have Hru1 := Lib.hid hru1; have Hy1 := Lib.hid hy1; have Hb1 := Lib.hid hb1; clear hr1 hru1 hy1 hb1)
          | fail)
        exact ⟨⟨i + 1, m', y', vv, out, run ++ [c], by rw [Int.natCast_add]; rfl, by omega, Hr1.out, Hru1.out, Hy1.out, hout.out, HD.out, hbr.out.trans Hb1.out, Nat.le_trans hPw.out Hb1.out.size⟩, by simp [intOf]; omega⟩
      · rw [if_neg hc2] at hD
        by_cases hfull : 65536 < out.length + num run
        · rw [if_pos hfull] at hD
          have HA := Lib.hid (addr_full P P vv out run m y c wr hrd.out hPw.out hrun.out hout.out (by omega) HC64.out hfull)
          have HD := Lib.hid hD
          clear hD hc2 hfull
          go_wp2_with (first
            | (go_at_call 19; refine HA.out.mono ?_; rintro e w1 ⟨rfl, hb1⟩; have Hb1 := Lib.hid hb1; clear hb1)
            | fail)
          go_ret3
          rw [← HD.out, ← HPe.out]
          exact ⟨rfl, hbr.out.trans Hb1.out⟩
        · rw [if_neg hfull] at hD
          by_cases hcode : 257 < c
          · rw [if_pos hcode] at hD
            have HA := Lib.hid (addr_code P P vv out run m y c wr hrd.out hPw.out hrun.out hout.out hcode HC64.out (by omega))
            have HD := Lib.hid hD
            clear hD hc2 hfull hcode
            go_wp2_with (first
              | (go_at_call 19; refine HA.out.mono ?_; rintro e w1 ⟨rfl, hb1⟩; have Hb1 := Lib.hid hb1; clear hb1)
              | fail)
            go_ret3
            rw [← HD.out, ← HPe.out]
            exact ⟨rfl, hbr.out.trans Hb1.out⟩
          · rw [if_neg hcode] at hD
            by_cases hend : c = 257
            · subst hend
              rw [if_pos rfl] at hD
              obtain ⟨N, hN⟩ : ∃ N, out.length + num run = N := ⟨_, rfl⟩
              have HA := Lib.hid (addr_end' P P vv out run m y wr hrd.out hPw.out hrun.out hout.out (by omega) N hN)
              obtain ⟨O, hO⟩ : ∃ O, O = out ++ List.replicate (num run) 0 := ⟨_, rfl⟩
              rw [← hO] at HA hD
              have HD := Lib.hid hD
              have hx' : wr.cell? (x.add i) = some (.int .u64 257) := hx
              have HON : Hid ((bcells O).length = N) := by show _ = _; rw [bcells_length, hO, ← hN]; simp
              clear hD hc2 hfull hcode hO hN hx
              go_wp2_with (first
                | (go_at_call 19; refine HA.out.mono ?_; rintro e w1 ⟨rfl, ao1, cap1, hr1, hb1⟩; have Hb1 := Lib.hid hb1; obtain ⟨c0, c1, c2, f0, f1, f2⟩ := row3 hr1.blk; have Hr1 := Lib.hid hr1; clear hb1 hr1)
                | ((with_reducible show wpList _ _ _ _ _ _); refine wpList_conv_owned rfl 38 9 5 (.tmp 28) rfl Try.underlying38 Try.underlying5 Try.underlying9 P _ O rfl Hr1.out.own ?_))
              go_ret3
              rw [← HD.out, ← HPe.out]
              exact ⟨rfl, hbr.out.trans Hb1.out⟩
            · rw [if_neg hend] at hD
              by_cases hbrim : out.length + num run = 65536
              · rw [if_pos hbrim] at hD
                have HA := Lib.hid (addr_brim P P vv out run m y c wr hrd.out hPw.out hrun.out hout.out (by omega) (by omega) hbrim)
                have HD := Lib.hid hD
                clear hD hc2 hfull hcode hend hbrim
                go_wp2_with (first
                  | (go_at_call 19; refine HA.out.mono ?_; rintro e w1 ⟨rfl, hb1⟩; have Hb1 := Lib.hid hb1; clear hb1)
                  | fail)
                go_ret3
                rw [← HD.out, ← HPe.out]
                exact ⟨rfl, hbr.out.trans Hb1.out⟩
              · rw [if_neg hbrim] at hD
                have HA := Lib.hid (addr_byte P P vv out run m y c wr hrd.out hPw.out hrun.out hout.out (by omega) (by omega) (by omega))
                have HD := Lib.hid hD
                have HOl : Hid ((out ++ List.replicate (num run) 0 ++ [UInt8.ofNat (c - 1)]).length ≤ 65536) := by show _ ≤ _; simp; omega
                obtain ⟨O, hO⟩ : ∃ O, O = out ++ List.replicate (num run) 0 ++ [UInt8.ofNat (c - 1)] := ⟨_, rfl⟩
                rw [← hO] at HA HD HOl
                clear hD hc2 hfull hcode hend hbrim hO
                go_wp2_with (first
                  | (go_at_call 19; refine HA.out.mono ?_; rintro e w1 ⟨rfl, v1, hr1, hb1⟩; have Hb1 := Lib.hid hb1; have Hr1 := Lib.hid hr1; clear hr1 hb1)
                  | fail)
                exact ⟨⟨i + 1, 0, 0, v1, O, [], by rw [Int.natCast_add]; rfl, by omega, Hr1.out, Run.nil, by show _ < _; omega, HOl.out, HD.out, hbr.out.trans Hb1.out, Nat.le_trans hPw.out Hb1.out.size⟩, by simp [intOf]; omega⟩
    · have hin : i = n := by omega
      have hnil : xs.drop i = [] := List.drop_of_length_le (by have := Hn.out; omega)
      have hD := hdec.out
      rw [hnil, decG] at hD
      clear hin hnil hdec Hc
      obtain ⟨HC1, HC2⟩ := close_run P P vv out run m y wr hrd.out hPw.out hrun.out hout.out
      by_cases hfull : 65536 < out.length + num run
      · rw [if_pos hfull] at hD
        have HA := Lib.hid (HC1 hfull)
        have HD := Lib.hid hD
        clear hD hfull HC1 HC2
        go_wp2_with (first
          | (go_at_call 20; refine HA.out.mono ?_; rintro e w1 ⟨rfl, hb1⟩; have Hb1 := Lib.hid hb1; clear hb1)
          | fail)
        go_ret3
        rw [← HD.out, ← HPe.out]
        exact ⟨rfl, hbr.out.trans Hb1.out⟩
      · rw [if_neg hfull] at hD
        have HA := Lib.hid (HC2 (by omega))
        have HD := Lib.hid hD
        clear hD hfull HC1 HC2
        go_wp2_with (first
          | (go_at_call 20; refine HA.out.mono ?_; rintro e w1 ⟨rfl, v1, hr1, hb1⟩; have Hb1 := Lib.hid hb1; clear hb1 hr1)
          | fail)
        go_ret3
        rw [← HD.out, ← HPe.out]
        exact ⟨rfl, hbr.out.trans Hb1.out⟩
end Go.Proofs.Yteeieeoieagclaa
