/- canon.Of: the codes of right lengths. -/
import Derived.Test.YtidmmcgnghdfdaaDoorCoded2
import Derived.Test.YtidmmcgnghdfdaaDoorCoded3
import Derived.Test.YtidmmcgnghdfdaaDoorBits5
namespace Go.Proofs.YtidmmcgnghdfdaaDoor
open Go.RowKit SortPlain PackPlain CanonPlain
set_option linter.unusedVariables false

theorem rs_sum {X : List Nat} (hok : CodeOk X) : rs X X.length = (X.map (rmL 15)).sum := by
  have h1 : ∀ k, k ≤ X.length → rs X k = ((X.take k).map (rmL 15)).sum := fun k => by
    induction k with
    | zero => intro _; rfl
    | succ k ih =>
      intro hk
      have hk' : k < X.length := hk
      rw [rs_succ, ih (by omega), List.take_succ_eq_append_getElem hk', List.map_append, List.sum_append]
      have e : wt X k = X[k] := by unfold wt; simp [List.getD, hk']
      have e2 := hok.le k
      rw [e] at e2 ⊢
      simp only [List.map_cons, List.map_nil, List.sum_cons, List.sum_nil, Nat.add_zero]
      congr 1
      unfold rm rmL
      by_cases h0 : 0 < X[k]
      · rw [if_pos h0, if_pos (by omega)]
      · rw [if_neg h0, if_neg (by omega)]
  have h2 := h1 X.length (Nat.le_refl _)
  rw [List.take_length] at h2
  exact h2
theorem gc_lt {X : List Nat} (hok : CodeOk X) (l : Nat) (hl : l ≤ 15) : gc X l ≤ 32768 := by
  have h := gc_le X ?_ l hl
  · have := Nat.pow_le_pow_right (n := 2) (by decide) hl
    have e : (2 : Nat) ^ 15 = 32768 := by decide
    omega
  · rw [← rs_sum hok]
    have := hok.room_le
    have e : (2 : Nat) ^ 15 = 32768 := by decide
    omega

set_option maxRecDepth 100000 in
set_option maxHeartbeats 8000000 in
theorem of_any (vx : Value) (X : List Nat) (w : World) (hx : IntsAt w vx X) (hok : CodeOk X) :
    Calls Tryd.prog 42 #[vx] w fun e w' => ∃ b, e = .returned (.pointer (some ⟨b, 0, none⟩)) ∧ Hid (BookAt w' b X vx) ∧ Hid (w.grownBy w' none) := by
  have hl := hok.len
  have HG : Hid (∀ l, l ≤ 15 → gc X l ≤ 32768) := fun l h => gc_lt hok l h
  obtain ⟨ax, cx, rfl, _, hcx⟩ := hx
  have HC : Hid (∀ W : World, Below w.heap.size w W → ∀ s, s < X.length → ∃ (g y : Nat), ax = some ⟨g, 0, none⟩ ∧ W.cell? ⟨g, s, none⟩ = some (.int .i64 (y : Nat)) ∧ y = X.getD s 0) := fun W hW s hs => by
    obtain ⟨g, h3, h4⟩ := hcx s hs
    have e2 : X.getD s 0 = X[s] := by simp [List.getD, hs]
    exact ⟨g, X[s], h3, (grown_bel hW none).cell h4 (by simp), e2.symm⟩
  have Hlv := Lib.hid (rfl : Value.slice ax X.length cx = .slice ax X.length cx)
  clear hcx
  obtain ⟨n0, hn0⟩ : ∃ n0, n0 = X.length := ⟨_, rfl⟩
  have Hn0 := Lib.hid hn0
  have hmk : ∀ W : World, (Instr.makeSlice 24 (.int .i64 (n0 : Int)) (.int .i64 (n0 : Int))).run Tryd.prog W = .ok (.slice (some ⟨W.heap.size, 0, none⟩) n0 n0) (W.alloc (.cells (Array.replicate n0 (.int .u64 0)) 25)) := fun W => by
    obtain ⟨i, hi, hz0, hz1, hz2⟩ := info_parts elemNums.info
    have hr := run_make (P := Tryd.prog) W 24 25 i _ Tryd.underlying24 hi hz0 .i64 .i64 n0 n0 (by omega) (by omega) (by rw [hz2]; omega) (by omega)
    simp only [Int.toNat_natCast] at hr
    rw [hr, hz1]
    congr 3
    apply Array.ext
    · simp [madeCells]
    · intro j h1 h2
      simp [madeCells]
      show #[Value.int .u64 0][j % 1]! = _
      rw [Nat.mod_one]; rfl
  rw [← hn0] at HC hl ⊢
  have hl' : (n0 : Int) ≤ 512 := by omega
  clear hn0 hok
  go_enter Tryd.func42, Tryd.ntmps42
  go_wp2_with fail
  clear hmk
  have hin : Hid (OfAt w X (.slice ax n0 cx) (w.heap.size + 1) w.heap.size w.heap.size n0 1 0 0 ((w.alloc (.cells (Array.replicate n0 (.int .u64 0)) 25)).alloc (.cells (bookRow (fun _ => 0) (fun _ => 0) (.slice none 0 0) (.slice (some ⟨w.heap.size, 0, none⟩) n0 n0) (.slice ax n0 cx)) 96))) := by
    obtain ⟨h1, h2, h3⟩ := two_blocks w (.cells (Array.replicate n0 (.int .u64 0)) 25) (.cells (bookRow (fun _ => 0) (fun _ => 0) (.slice none 0 0) (.slice (some ⟨w.heap.size, 0, none⟩) n0 n0) (.slice ax n0 cx)) 96)
    refine ⟨.slice none 0 0, Nat.le_refl _, by omega, Nat.le_refl _, by omega, bel_grown (grown_trans (World.grownBy_alloc _ _ _) (World.grownBy_alloc _ _ _)) (Nat.le_refl _), ?_, Owns.nil _ _ _, ?_⟩
    · rw [h2]
      have e1 : cntT X 1 0 = fun _ => 0 := by
        funext m
        unfold cntT
        rw [if_neg (by omega)]
        split <;> simp
      have e2 : fstT X 0 = fun _ => 0 := by
        funext m
        unfold fstT
        rw [if_neg (by omega)]
      rw [e1, e2]
    · rw [h1, codesTo_zero, ← Hn0.out]
      congr 2
      simp [ncells]
  generalize hW : World.alloc (World.alloc w _) _ = W1
  have hin1 : Hid (OfAt w X (.slice ax n0 cx) (w.heap.size + 1) w.heap.size w.heap.size n0 1 0 0 W1) := by
    rw [← hW]; exact hin
  clear hin hW
  obtain ⟨G, hG⟩ : ∃ G, G = w.heap.size := ⟨_, rfl⟩
  rw [← hG] at hin1 ⊢
  obtain ⟨b, hb⟩ : ∃ b, b = G + 1 := ⟨_, rfl⟩
  rw [← hb] at hin1 ⊢
  have HGe := Lib.hid hG
  clear hG hb
  go_loopw [4, 5] (fun cv iv wr => ∃ (l : Nat), iv = .int .i64 (l : Nat) ∧ 1 ≤ l ∧ l ≤ 16 ∧ cv = .int .u64 (gc X (l - 1) : Nat) ∧ Hid (OfAt w X (.slice ax n0 cx) b G G n0 l (l - 1) 0 wr)) (fun _ iv _ => 16 - (intOf iv).toNat)
  case atStart => exact ⟨1, rfl, Nat.le_refl _, by omega, rfl, hin1⟩
  case round =>
    clear hin1
    obtain ⟨l, rfl, hl1, hl2, rfl, hat⟩ := hrel
    by_cases hlt : l ≤ 15
    · have hlt' : (l : Int) ≤ 15 := by omega
      have hl1' : (1 : Int) ≤ (l : Int) := by omega
      have hgb := HG.out (l - 1) (by omega)
      have hfc : fc X l = 2 * gc X (l - 1) := by
        obtain ⟨k, rfl⟩ : ∃ k, l = k + 1 := ⟨l - 1, by omega⟩
        rfl
      obtain ⟨c, hc⟩ : ∃ c, c = gc X (l - 1) := ⟨_, rfl⟩
      rw [← hc] at hgb hfc ⊢
      have Hfc := Lib.hid hfc
      have hw1 : IntKind.u64.wrap ((c : Int) * 2) = ((2 * c : Nat) : Int) := by rw [wrap64u_in _ (by omega) (by omega)]; omega
      clear hfc hc
      obtain ⟨sv, hmid⟩ := hat.out
      have c1 : wr.cell? ⟨b, 16 + l, none⟩ = some (.int .u64 (fstT X (l - 1) l : Nat)) := row_cell hmid.row _ _ (bookRow_first _ _ _ _ _ l (by omega))
      have f1 : wr.frozen? ⟨b, 16 + l, none⟩ = false := row_free hmid.row _
      have Hmid := Lib.hid hmid
      clear hmid
      go_wp2_with fail
      have hin2 : Hid (OfAt w X (.slice ax n0 cx) b G G n0 l l 0 (wr.setCell ⟨b, 16 + l, none⟩ (.int .u64 (2 * (c : Int))))) := by
        refine ⟨sv, Hmid.out.put (16 + l) (.int .u64 (2 * (c : Int))) ?_⟩
        have h1 := fstT_set X l hl1
        exact bookRow_setFirst _ _ _ _ _ _ l (2 * c) (by omega) (by rw [h1.1, Hfc.out]) h1.2
      clear c1 f1
      generalize wr.setCell ⟨b, 16 + l, none⟩ (.int .u64 (2 * (c : Int))) = w2 at hin2 ⊢
      clear Hmid hw1 hat
      go_loopw [4, 28] (fun cv iv wq => ∃ (i k : Nat), iv = .int .i64 (i : Nat) ∧ i ≤ n0 ∧ cv = .int .u64 (k : Nat) ∧ Hid (k = 2 * c + (X.take i).count l) ∧ Hid (OfAt w X (.slice ax n0 cx) b G G n0 l l i wq)) (fun _ iv _ => n0 - (intOf iv).toNat)
      case atStart => exact ⟨0, 2 * c, rfl, Nat.zero_le _, by simp, by show _ = _; simp, hin2⟩
      case round =>
        clear hin2
        obtain ⟨i, k, rfl, hi, rfl, Hk, hat⟩ := hrel
        by_cases hil : i < n0
        · have hii : (i : Int) < (n0 : Int) := by omega
          have hiX : i < X.length := by have := Hn0.out; omega
          obtain ⟨sv, hmid⟩ := hat.out
          obtain ⟨g, y, rfl, c1, hy⟩ := HC.out wr (by rw [← HGe.out]; exact hmid.below) i hil
          have hcn : (X.take i).count l ≤ n0 := by have := count_len X i l; have := Hn0.out; omega
          by_cases hyl : y = l
          · subst hyl
            have Hy := Lib.hid hy
            have hcd : k = codeAt X i := by unfold codeAt; rw [Hk.out, ← Hy.out, Hfc.out]
            have Hhit := cntT_hit X y i hiX Hy.out.symm
            have Hcd := codesTo_hit X y i hiX Hy.out.symm hl1 k hcd
            have hm1 := hmid.code i (.int .u64 (k : Int)) Hcd
            have c2 : wr.cell? ⟨b, 33, none⟩ = some (.slice (some ⟨G, 0, none⟩) n0 n0) := row_cell hmid.row _ _ (bookRow_codes _ _ _ _ _)
            have hG4 := HG.out y hlt
            have hgcy : k ≤ 65536 := by
              have h1 := fc_gc X y hl1
              have h2 : (X.take i).count y ≤ X.count y := (List.take_sublist _ _).count_le _
              rw [Hfc.out] at h1
              have := Hk.out
              omega
            obtain ⟨u0, hu0⟩ : ∃ u0, wr.cell? ⟨G, i, none⟩ = some (.int .u64 u0) := ⟨_, row_cell hmid.codes _ _ (by simp only [List.getElem?_toArray]; exact List.getElem?_eq_getElem (by rw [ncells_length, codesTo_length]; exact hiX)) |>.trans (by simp [ncells]; rfl)⟩
            have f3 : wr.frozen? ⟨G, i, none⟩ = false := row_free hmid.codes _
            have Hsy : Hid (symsTo X y (i + 1) = symsTo X y i ++ [i]) := by show _ = _; rw [symsTo_succ, if_pos Hy.out.symm]
            have Hcs : Hid ((X.take (i + 1)).count y = (X.take i).count y + 1) := by show _ = _; rw [count_succ X y i hiX, if_pos Hy.out.symm]
            have Hsl : Hid ((syms X (y - 1) ++ symsTo X y i).length ≤ 1024) := by
              show _ ≤ _
              have h1 := syms_le X (y - 1)
              have h2 : (symsTo X y i).length ≤ i := by unfold symsTo; exact Nat.le_trans (List.length_filter_le _ _) (by simp)
              rw [List.length_append]
              have := Hn0.out
              omega
            have Hcat := Lib.hid (cntT_at X y i)
            generalize hcc : (X.take i).count y = cc at hcn Hhit Hcs Hcat Hk
            have d32 : (wr.setCell ⟨G, i, none⟩ (.int .u64 (k : Int))).cell? ⟨b, 32, none⟩ = some sv := row_cell hm1.row _ _ (bookRow_syms _ _ _ _ _)
            have HM1 := Lib.hid hm1
            have HH := Lib.hid Hhit
            have Hl1 : Hid (((icells (syms X (y - 1) ++ symsTo X y i)).length + 1) * 8 ≤ 140737488355328) := by show _ ≤ _; rw [icells_length]; have := Hsl.out; omega
            have Hl2 : Hid ((icells (syms X (y - 1) ++ symsTo X y i)).length + 1 ≤ maxLen) := by show _ ≤ _; rw [icells_length]; have := Hsl.out; unfold maxLen; omega
            have HF : Hid (∀ (v' : Value) (W' : World), Grew (wr.setCell ⟨G, i, none⟩ (.int .u64 (k : Int))) sv W' v' → W'.cell? ⟨b, 32, none⟩ = some sv ∧ W'.frozen? ⟨b, 32, none⟩ = false) := fun v' W' hg => ⟨row_cell (hg.row HM1.out.row HM1.out.neB) _ _ (bookRow_syms _ _ _ _ _), row_free (hg.row HM1.out.row HM1.out.neB) _⟩
            have hwc : IntKind.u64.wrap ((k : Int) + 1) = ((k + 1 : Nat) : Int) := by rw [wrap64u_in _ (by omega) (by omega)]; rfl
            clear hy hmid hat hcd Hhit Hcd hm1 hcc hG4
            go_wp2_with (first
              | (at_builtin; refine wpList_add1 rfl (.tmp 47) (.tmp 49) 26 rfl G 3 (.int .i64 0) 8 elemInts _ (icells (syms X (y - 1) ++ symsTo X y i)) rfl HM1.out.own (.int .i64 (i : Nat)) (by simp [Act.eval]) rfl Hl1.out Hl2.out HM1.out.size ?_; intro g2 cap2 w3 ho2 hg2; obtain ⟨e1, e2⟩ := HF.out _ _ hg2; have HO2 := Lib.hid (HM1.out.app ho2 hg2); clear ho2 hg2)
              | fail)
            have hm4 := HO2.out.put 32 (.slice (some ⟨g2, 0, none⟩) ((icells (syms X (y - 1) ++ symsTo X y i)).length + 1) cap2) (bookRow_setSyms _ _ _ _ _ _)
            clear e1 e2 d32 c2 hu0 f3
            generalize w3.setCell ⟨b, 32, none⟩ (.slice (some ⟨g2, 0, none⟩) ((icells (syms X (y - 1) ++ symsTo X y i)).length + 1) cap2) = w4 at hm4 ⊢
            generalize (Value.slice (some ⟨g2, 0, none⟩) ((icells (syms X (y - 1) ++ symsTo X y i)).length + 1) cap2) = v' at hm4 ⊢
            have c4 : w4.cell? ⟨b, y, none⟩ = some (.int .i64 (cc : Nat)) := by rw [row_cell hm4.row _ _ (bookRow_count _ _ _ _ _ y (by omega)), Hcat.out]
            have f4 : w4.frozen? ⟨b, y, none⟩ = false := row_free hm4.row _
            have Hm4 := Lib.hid hm4
            have hwk : IntKind.i64.wrap ((cc : Int) + 1) = ((cc + 1 : Nat) : Int) := by rw [IntWalk.i64_in _ (by omega)]; rfl
            have hyb : (y : Int) < 16 := by omega
            clear hm4
            go_region
            go_wp2_with fail
            refine ⟨⟨i + 1, k + 1, by rw [Int.natCast_add]; rfl, by omega, rfl, ?_, ?_⟩, by simp [intOf]; omega⟩
            · show _ = _
              rw [Hcs.out, Hk.out]; omega
            · refine ⟨v', ?_⟩
              have hfin := (Hm4.out.drewN 1).put y (.int .i64 ((cc + 1 : Nat) : Int)) (bookRow_setCount _ (cntT X y (i + 1)) _ _ _ _ y (cc + 1) (by omega) HH.out.1 HH.out.2)
              rw [Hsy.out, ← List.append_assoc, icells_append]
              exact hfin
          · have hyl2 : ((y : Int) == (l : Int)) = false := by simp; omega
            have Hskip := Lib.hid (And.intro (cntT_skip X l i hiX (by rw [← hy]; exact hyl)) (And.intro (codesTo_skip X l i (by rw [← hy]; exact hyl)) (And.intro (symsTo_succ X l i) (count_succ X l i hiX))))
            have Hmid := Lib.hid hmid
            clear hmid hat
            have Hne : Hid (X.getD i 0 ≠ l) := by show _ ≠ _; rw [← hy]; exact hyl
            clear hy hyl
            go_wp2_with fail
            refine ⟨⟨i + 1, k, by rw [Int.natCast_add]; rfl, by omega, rfl, ?_, ?_⟩, by simp [intOf]; omega⟩
            · show _ = _
              rw [Hskip.out.2.2.2, if_neg Hne.out]; exact Hk.out
            · refine ⟨sv, ?_⟩
              rw [Hskip.out.1, Hskip.out.2.1, Hskip.out.2.2.1, if_neg Hne.out]
              exact Hmid.out
        · obtain rfl : i = n0 := by omega
          have hkg : k = gc X l := by
            have h1 := Hk.out
            rw [Hn0.out, List.take_length] at h1
            rw [h1, fc_gc X l hl1, Hfc.out]
          have Hkg := Lib.hid hkg
          clear hkg
          go_wp2_with fail
          refine ⟨⟨l + 1, by rw [Int.natCast_add]; rfl, by omega, by omega, by rw [Hkg.out]; rfl, ?_⟩, by simp [intOf]; omega⟩
          obtain ⟨sv, hmid⟩ := hat.out
          refine ⟨sv, ?_⟩
          rw [Nat.add_sub_cancel, symsTo_zero, List.append_nil, ← cntT_next X l hl1, ← codesTo_next, ← Hn0.out]
          have h2 : syms X l = syms X (l - 1) ++ symsTo X l i := by
            obtain ⟨q, rfl⟩ : ∃ q, l = q + 1 := ⟨l - 1, by omega⟩
            rw [Nat.add_sub_cancel, syms, Hn0.out, symsTo_all]
          rw [h2]
          exact hmid
    · obtain rfl : l = 16 := by omega
      go_wp2_with fail
      go_ret
      refine ⟨b, rfl, ?_, ?_⟩
      · have h1 := OfAt.done hat.out Hn0.out (by have := Hn0.out; omega)
        exact h1
      · obtain ⟨sv, hmid⟩ := hat.out
        have h1 := hmid.below
        rw [HGe.out] at h1
        exact grown_bel h1 none
end Go.Proofs.YtidmmcgnghdfdaaDoor
