/- The walk of TopPacked. -/
import Derived.Test.YtidmmcgnghdfdaaPack8
import Derived.Test.YtidmmcgnghdfdaaEncode
import Derived.Test.YtidmmcgnghdfdaaBegins
namespace Go.Proofs.Ytidmmcgnghdfdaa
open Go.RowKit SortPlain PackPlain ZerosPlain
set_option linter.unusedVariables false

theorem encG_last (l : List UInt8) (n : Nat) : 257 ∈ encG l n := by
  induction l generalizing n with
  | nil => simp [encG]
  | cons c l ih => rw [encG]; split <;> simp [ih]
theorem run_makeNums (n : Nat) (hn : n ≤ 1000000) (W : World) :
    (Instr.makeSlice 23 (.int .i64 (n : Int)) (.int .i64 (n : Int))).run Try.prog W = .ok (.slice (some ⟨W.heap.size, 0, none⟩) n n) (W.alloc (.cells (Array.replicate n (.int .u64 0)) 27)) := by
  obtain ⟨i, hi, hz0, hz1, hz2⟩ := info_parts elemNums.info
  have hr := run_make (P := Try.prog) W 23 27 i _ Try.underlying23 hi hz0 .i64 .i64 n n (by omega) (by omega) (by rw [hz2]; omega) (by omega)
  simp only [Int.toNat_natCast] at hr
  rw [hr, hz1]
  congr 3
  apply Array.ext
  · simp [madeCells]
  · intro j h1 h2
    simp [madeCells]
    show #[Value.int .u64 0][j % 1]! = _
    rw [Nat.mod_one]; rfl
/-- the row of the counted symbols -/
def urow (n : Nat) (f : Nat → Nat) : Array Value := (ncells ((List.range n).map f)).toArray
theorem urow_zero (n : Nat) : Array.replicate n (Value.int .u64 0) = urow n (fun _ => 0) := by
  apply Array.ext
  · simp [urow, ncells]
  · intro j h1 h2; simp [urow, ncells]
theorem urow_get (n : Nat) (f : Nat → Nat) (i : Nat) (h : i < n) : (urow n f)[i]? = some (.int .u64 (f i : Nat)) := by simp [urow, ncells, h]
theorem urow_set (n : Nat) (f f' : Nat → Nat) (i : Nat) (h : i < n) (v : Nat) (hv : f' i = v) (ho : ∀ j, j ≠ i → f' j = f j) : (urow n f).setIfInBounds i (.int .u64 (v : Nat)) = urow n f' := by
  apply Array.ext_getElem?
  intro j
  rw [Array.getElem?_setIfInBounds]
  by_cases hj : i = j
  · subst hj
    rw [if_pos rfl, if_pos (by simp [urow, ncells, h]), urow_get n f' i h, hv]
  · rw [if_neg hj]
    rcases Nat.lt_or_ge j n with h1 | h1
    · rw [urow_get _ _ _ h1, urow_get _ _ _ h1, ho j (fun e => hj e.symm)]
    · simp [urow, ncells, h1]
theorem NumsAt.of_urow {W : World} {G n : Nat} {f : Nat → Nat} {t : TypeId} (h : W.heap[G]? = some (.cells (urow n f) t (0, 0))) (hn : n ≤ 512) : NumsAt W (.slice (some ⟨G, 0, none⟩) n n) ((List.range n).map f) :=
  ⟨some ⟨G, 0, none⟩, n, by simp, by simp [maxLen]; omega, fun i hi => ⟨_, rfl, by rw [add_plain, Nat.zero_add, row_cell h i _ (urow_get n f i (by simpa using hi))]; simp⟩⟩

set_option maxRecDepth 100000 in
set_option maxHeartbeats 16000000 in
theorem topPacked_walk (s : ByteArray) (a1 : Int) (w0 : s.size ≤ maxLen) (w1 : (Lit.int .i64 a1).wf = true) (w : World) :
    Calls Try.prog 3 #[.string s, .int .i64 a1] w fun e w' => e = .returned (.bool true) ∧ Below w.heap.size w w' := by
  have HB := Lib.hid (fun w => begins_any w)
  have HE := Lib.hid (fun W => encode_any s W w0)
  have h64 : (s.size : Int) ≤ 9223372036854775807 := by have := w0; unfold maxLen at this; omega
  clear w0 w1
  by_cases hbig : 2000 < s.size
  · have hbi : (2000 : Int) < (s.size : Int) := by omega
    go_enter Try.func3, Try.ntmps3
    go_wp2_with (first
      | (go_at_call 4; refine (HB.out _).mono ?_; rintro e w1 ⟨rfl, hb1⟩)
      | fail)
    go_ret
    exact ⟨rfl, hb1⟩
  · have hbi : (s.size : Int) ≤ 2000 := by omega
    have eR : encR s.data.toList = (encG s.data.toList 0, 0) := by unfold encR; rw [if_neg (by rw [size_data]; omega)]
    rw [eR] at HE
    obtain ⟨L, hL⟩ : ∃ L, L = encG s.data.toList 0 := ⟨_, rfl⟩
    have hLs : Hid (∀ x ∈ L, x ≤ 257) := by show ∀ x ∈ L, _; rw [hL]; exact encG_small _ _
    have hLl : L.length ≤ 2001 := by have := encG_length s.data.toList 0; rw [size_data] at this; rw [hL]; omega
    have hLm : Hid (257 ∈ L) := by show 257 ∈ L; rw [hL]; exact encG_last _ _
    rw [← hL] at HE
    clear eR hL hbig
    have hmk : ∀ W : World, (Instr.makeSlice 23 (.int .i64 258) (.int .i64 258)).run Try.prog W = .ok (.slice (some ⟨W.heap.size, 0, none⟩) 258 258) (W.alloc (.cells (urow 258 (fun _ => 0)) 27)) := fun W => by
      have h := run_makeNums 258 (by omega) W
      rw [urow_zero] at h
      exact h
    go_enter Try.func3, Try.ntmps3
    go_wp2_with (first
      | (go_at_call 4; refine (HB.out _).mono ?_; rintro e w1 ⟨rfl, hb1⟩; have Hb1 := Lib.hid hb1; clear hb1)
      | fail)
    refine (HE.out _).mono ?_
    rintro e w2 ⟨v, rfl, hv, hb2⟩
    obtain ⟨av, cv, rfl, hvm, hvc⟩ := hv
    have Hb2 : Hid (Below w.heap.size w w2) := Hb1.out.trans (hb2.mono Hb1.out.size)
    have Hvc : Hid (∀ W : World, w2.grownBy W (some w2.heap.size) → ∀ i, i < L.length → ∃ (x : Addr) (y : Nat), av = some x ∧ W.cell? (x.add i) = some (.int .u64 (y : Nat)) ∧ y ≤ 257 ∧ L.take (i + 1) = L.take i ++ [y]) := fun W hW i hi => by
      obtain ⟨x, h1, h2⟩ := hvc i hi
      refine ⟨x, L[i], h1, hW.cell h2 ?_, hLs.out _ (List.getElem_mem hi), List.take_succ_eq_append_getElem hi⟩
      intro e
      injection e with e
      have h3 : (x.add i).block < w2.heap.size := by
        rcases Nat.lt_or_ge (x.add i).block w2.heap.size with h | h
        · exact h
        · simp [World.cell?, Array.getElem?_eq_none h] at h2
      omega
    clear hb2 hvm hvc Hb1 HB HE
    obtain ⟨n, hn⟩ : ∃ n, n = L.length := ⟨_, rfl⟩
    have Hn := Lib.hid hn
    rw [← hn] at Hvc hLl ⊢
    have hni : (n : Int) ≤ 2001 := by omega
    clear hn
    simp only []
    go_wp2_with fail
    clear hmk
    have q0 := Lib.hid (heap_alloc_new w2 (.cells (urow 258 (fun _ => 0)) 27))
    have g0 := Lib.hid (World.grownBy_alloc w2 (.cells (urow 258 (fun _ => 0)) 27) (some w2.heap.size))
    generalize w2.alloc (.cells (urow 258 (fun _ => 0)) 27) = w3 at q0 g0 ⊢
    obtain ⟨G, hG⟩ : ∃ G, G = w2.heap.size := ⟨_, rfl⟩
    rw [← hG] at q0 g0 Hvc ⊢
    have HG := Lib.hid hG
    clear hG
    go_loopw [31] (fun iv wr => ∃ i : Nat, iv = .int .i64 (i : Nat) ∧ i ≤ n ∧ Hid (wr.heap[G]? = some (.cells (urow 258 (fun q => (L.take i).count q)) 27 (0, 0))) ∧ Hid (w2.grownBy wr (some G))) (fun iv _ => n - (intOf iv).toNat)
    case atStart => exact ⟨0, rfl, Nat.zero_le _, by show _ = _; rw [q0.out]; simp, g0⟩
    case round =>
      clear q0 g0
      obtain ⟨i, rfl, hi, hr, hg⟩ := hrel
      by_cases hlt : i < n
      · obtain ⟨x, y, rfl, c1, hy, htk⟩ := Hvc.out wr hg.out i hlt
        have c2 := row_cell hr.out y _ (urow_get 258 _ y (by omega))
        have c3 := row_free hr.out y
        have hcb : (L.take i).count y ≤ 2001 := by have := List.count_le_length (a := y) (l := L.take i); rw [List.length_take] at this; omega
        obtain ⟨c, hc⟩ : ∃ c, c = (L.take i).count y := ⟨_, rfl⟩
        rw [← hc] at c2 hcb
        have Hc := Lib.hid hc
        have Htk := Lib.hid htk
        have hyi : (y : Int) ≤ 257 := by omega
        have hii : (i : Int) < (n : Int) := by omega
        have hw1 : IntKind.u64.wrap ((c : Int) + 1) = ((c + 1 : Nat) : Int) := by rw [wrap64u_in _ (by omega) (by omega)]; rfl
        clear hc htk
        go_wp2_with fail
        refine ⟨⟨i + 1, by rw [Int.natCast_add]; rfl, by omega, ?_, grown_trans hg.out (grown_setCell _ ⟨G, y, none⟩ _)⟩, by simp [intOf]; omega⟩
        show _ = _
        rw [heap_setCell_same _ G y _ _ _ hr.out]
        congr 2
        refine urow_set 258 _ _ y (by omega) (c + 1) (by rw [Htk.out, List.count_append, Hc.out]; simp) (fun j hj => by rw [Htk.out, List.count_append]; simp [List.count_cons, List.count_nil]; exact fun e => hj e.symm)
      · obtain rfl : i = n := by omega
        have hLt : L.take i = L := List.take_of_length_le (by rw [← Hn.out]; exact Nat.le_refl _)
        rw [hLt] at hr
        obtain ⟨Wl, hWl⟩ : ∃ Wl, Wl = (List.range 258).map (fun q => L.count q) := ⟨_, rfl⟩
        have hWlen : Wl.length = 258 := by rw [hWl]; simp
        have HNW : Hid (NumsAt wr (.slice (some ⟨G, 0, none⟩) 258 258) Wl) := by show NumsAt _ _ _; rw [hWl]; exact NumsAt.of_urow hr.out (by omega)
        have hWt : ∀ q, q < 258 → wt Wl q = L.count q := fun q hq => by unfold wt; rw [hWl]; simp [List.getD, hq]
        have HWb : Hid (∀ x ∈ Wl, x ≤ 1099511627776) := by
          show ∀ x ∈ Wl, _
          rw [hWl]
          intro x hx
          obtain ⟨q, _, rfl⟩ := List.mem_map.1 hx
          have := List.count_le_length (a := q) (l := L)
          rw [← Hn.out] at this
          omega
        have HWn : Hid (0 < (have_ Wl Wl.length).length) := by
          show 0 < _
          refine List.length_pos_of_mem (a := 257) ?_
          unfold have_
          rw [List.mem_filter]
          refine ⟨List.mem_range.2 (by omega), ?_⟩
          rw [hWt 257 (by omega)]
          simpa using List.count_pos_iff.2 hLm.out
        have HWs : Hid (csum (wt Wl) (fun _ => 1) Wl.length = i) := by
          show _ = _
          rw [hWlen, csum_congr (f' := fun q => L.count q) (g' := fun _ => 1) 258 (fun q hq => ⟨hWt q hq, rfl⟩), csum_hist 258 L (fun x hx => by have := hLs.out x hx; omega), ← Hn.out]
        have HB3 : Hid (Below w.heap.size w wr) := Hb2.out.grown hg.out Hb2.out.size (fun k e => by injection e with e; have := HG.out; have := Hb2.out.size; omega)
        have hWl5 : Wl.length ≤ 512 := by omega
        have HLn : Hid (∀ (V : World) (l : Nat), wr.grownBy V none → 1 ≤ l → l ≤ 15 → Calls Try.prog 6 #[.slice (some ⟨G, 0, none⟩) 258 258, .int .i64 (l : Nat)] V fun e w' => ∃ order, OrderOf Wl order ∧ Hid (V.grownBy w' none) ∧ ((2 ^ l < order.length ∧ e = .returned (.tuple #[.slice none 0 0, .int .i64 8])) ∨ (order.length ≤ 2 ^ l ∧ ∃ r, e = .returned (.tuple #[r, .int .i64 0]) ∧ IntsAt w' r (lens Wl order l)))) := fun V l hV h1 h2 => lengths_in _ Wl l V (HNW.out.grown hV) hWl5 HWb.out HWn.out h1 h2
        have HCn : Hid (∀ (V : World) (r : Value) (order : List Nat) (l : Nat), wr.grownBy V none → IntsAt V r (lens Wl order l) → OrderOf Wl order → 1 ≤ l → l ≤ 15 → order.length ≤ 2 ^ l → Calls Try.prog 7 #[.slice (some ⟨G, 0, none⟩) 258 258, r] V fun e w' => e = .returned (.tuple #[.int .u64 (csum (wt Wl) (wt (lens Wl order l)) Wl.length : Nat), .int .i64 0]) ∧ w' = V) := fun V r order l hV hr ho h1 h2 h3 => cost_any _ _ Wl _ V (HNW.out.grown hV) hr hWl5 HWb.out (lens_length _ _ _) (lens_ok ho l h1 h2 h3)
        have HLb : Hid (∀ V : World, wr.grownBy V none → (a1 < 1 ∨ 15 < a1) → Calls Try.prog 6 #[.slice (some ⟨G, 0, none⟩) 258 258, .int .i64 a1] V fun e w' => e = .returned (.tuple #[.slice none 0 0, .int .i64 1]) ∧ w' = V) := fun V hV h => lengths_bad _ Wl a1 V (HNW.out.grown hV) hWl5 HWb.out h
        have HCb : Hid (∀ V : World, wr.grownBy V none → Calls Try.prog 7 #[.slice (some ⟨G, 0, none⟩) 258 258, .slice none 0 0] V fun e w' => e = .returned (.tuple #[.int .u64 0, .int .i64 5]) ∧ w' = V) := fun V hV => cost_none _ Wl V (HNW.out.grown hV) hWl5 (by omega) HWb.out
        have HO5 : Hid (∀ order, OrderOf Wl order → order.length ≤ 258) := fun order ho => by rw [ho.len]; have := have_le Wl Wl.length; omega
        clear hWt hWl hr hLt hg Hvc hLs hLm Hb2 HG
        go_wp2_with fail
        refine (HLn.out wr 15 (grown_self _ _) (by omega) (by omega)).mono ?_
        rintro e w4 ⟨order, ho, hg4, h15⟩
        have hol := HO5.out order ho
        rcases h15 with ⟨h15, _⟩ | ⟨h15, r, rfl, hr4⟩
        · exfalso
          have : (2 : Nat) ^ 15 = 32768 := by decide
          omega
        have HC1 := Lib.hid (HCn.out w4 r order 15 hg4.out hr4 ho (by omega) (by omega) h15)
        have hn9 := cost_le_nine ho (by omega)
        rw [HWs.out] at hn9
        have Hless := Lib.hid (fun order2 (ho2 : OrderOf Wl order2) l h1 h2 h3 => cost_le_less ho ho2 l h1 h2 h3)
        obtain ⟨N1, hN1⟩ : ∃ N1, N1 = csum (wt Wl) (wt (lens Wl order 15)) Wl.length := ⟨_, rfl⟩
        rw [← hN1] at HC1 hn9 Hless
        have hn9' : (N1 : Int) ≤ 9 * (i : Int) := by omega
        have hw1 : IntKind.u64.wrap (i : Int) = (i : Int) := wrap64u_in _ (by omega) (by omega)
        have hw2 : IntKind.u64.wrap (9 * (i : Int)) = 9 * (i : Int) := wrap64u_in _ (by omega) (by omega)
        obtain ⟨ar, cr, rfl, -⟩ := hr4
        obtain ⟨lr, hlr⟩ : ∃ lr, lr = (lens Wl order 15).length := ⟨_, rfl⟩
        rw [← hlr] at HC1 ⊢
        have Hg4 := Lib.hid hg4.out
        clear hN1 hlr hg4 h15 hol HO5 hn9
        simp only []
        go_wp2_with fail
        refine HC1.out.mono ?_
        rintro e w5 ⟨rfl, hw5⟩
        obtain rfl : w4 = w5 := hw5.symm
        simp only []
        go_wp2_with fail
        by_cases hlim : 1 ≤ a1 ∧ a1 ≤ 15
        · obtain ⟨l, rfl⟩ : ∃ l : Nat, a1 = (l : Int) := ⟨a1.toNat, by omega⟩
          have hl1 : 1 ≤ l := by omega
          have hl2 : l ≤ 15 := by omega
          refine (HLn.out w4 l Hg4.out hl1 hl2).mono ?_
          rintro e w6 ⟨order2, ho2, hg6, hq⟩
          have Hg6 : Hid (wr.grownBy w6 none) := grown_trans Hg4.out hg6.out
          rcases hq with ⟨_, rfl⟩ | ⟨hq, r2, rfl, hr2⟩
          · clear Hg4 hg6
            simp only []
            go_wp2_with fail
            refine (HCb.out w6 Hg6.out).mono ?_
            rintro e w7 ⟨rfl, hw7⟩
            obtain rfl : w6 = w7 := hw7.symm
            simp only []
            go_wp2_with fail
            go_ret
            exact ⟨rfl, HB3.out.trans (bel_grown Hg6.out HB3.out.size)⟩
          · have HC2 := Lib.hid (HCn.out w6 r2 order2 l Hg6.out hr2 ho2 hl1 hl2 hq)
            have hle := Hless.out order2 ho2 l hl1 hl2 hq
            obtain ⟨N2, hN2⟩ : ∃ N2, N2 = csum (wt Wl) (wt (lens Wl order2 l)) Wl.length := ⟨_, rfl⟩
            rw [← hN2] at HC2 hle
            have hle' : (N1 : Int) ≤ (N2 : Int) := by omega
            obtain ⟨ar2, cr2, rfl, -⟩ := hr2
            obtain ⟨lr2, hlr2⟩ : ∃ lr2, lr2 = (lens Wl order2 l).length := ⟨_, rfl⟩
            rw [← hlr2] at HC2 ⊢
            clear Hg4 hg6 hN2 hlr2 hq
            simp only []
            go_wp2_with fail
            refine HC2.out.mono ?_
            rintro e w7 ⟨rfl, hw7⟩
            obtain rfl : w6 = w7 := hw7.symm
            simp only []
            go_wp2_with fail
            go_ret
            exact ⟨rfl, HB3.out.trans (bel_grown Hg6.out HB3.out.size)⟩
        · have hlim2 : a1 < 1 ∨ 15 < a1 := by omega
          clear hlim
          refine (HLb.out w4 Hg4.out hlim2).mono ?_
          rintro e w6 ⟨rfl, hw6⟩
          obtain rfl : w4 = w6 := hw6.symm
          clear hlim2
          simp only []
          go_wp2_with fail
          refine (HCb.out w4 Hg4.out).mono ?_
          rintro e w7 ⟨rfl, hw7⟩
          obtain rfl : w4 = w7 := hw7.symm
          simp only []
          go_wp2_with fail
          go_ret
          exact ⟨rfl, HB3.out.trans (bel_grown Hg4.out HB3.out.size)⟩
end Go.Proofs.Ytidmmcgnghdfdaa
