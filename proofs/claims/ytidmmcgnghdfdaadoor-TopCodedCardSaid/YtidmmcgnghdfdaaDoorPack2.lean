/- What pack's leaves are: the symbols that have a weight, sorted by it. -/
import Derived.Test.YtidmmcgnghdfdaaDoorPack1
namespace Go.Proofs.YtidmmcgnghdfdaaDoor
open Go.RowKit SortPlain
set_option linter.unusedVariables false

theorem elemInts : ElemOf Tryd.prog 26 3 (.int .i64 0) 8 := ⟨Tryd.underlying26, by kernel_rfl, rfl⟩
def wt (ws : List Nat) (i : Nat) : Nat := ws.getD i 0
/-- the symbols below k that have a weight -/
def have_ (ws : List Nat) (k : Nat) : List Nat := (List.range k).filter fun i => 0 < wt ws i
theorem have_succ (ws : List Nat) (k : Nat) : have_ ws (k + 1) = if 0 < wt ws k then have_ ws k ++ [k] else have_ ws k := by
  unfold have_
  rw [List.range_succ, List.filter_append]
  by_cases h : 0 < wt ws k
  · rw [if_pos h]; simp [h]
  · rw [if_neg h]; simp [h]
theorem have_lt (ws : List Nat) (k : Nat) : ∀ i ∈ have_ ws k, i < k ∧ 0 < wt ws i := by
  intro i hi
  unfold have_ at hi
  rw [List.mem_filter, List.mem_range] at hi
  exact ⟨hi.1, by simpa using hi.2⟩
theorem have_le (ws : List Nat) (k : Nat) : (have_ ws k).length ≤ k := by
  unfold have_
  have := List.length_filter_le (fun i => decide (0 < wt ws i)) (List.range k)
  rwa [List.length_range] at this
/-- an order of the leaves -/
structure OrderOf (ws order : List Nat) : Prop where
  perm : order.Perm (have_ ws ws.length)
  srt : Srt (wt ws) order
theorem Owns.row {w : World} {B g n cap : Nat} {Z : List Nat} (h : Owns w B 3 (.slice (some ⟨g, 0, none⟩) n cap) (icells Z)) : ∃ rest, RowI w g Z rest ∧ (icells Z ++ rest).length = cap ∧ n = Z.length ∧ n ≤ cap ∧ cap ≤ maxLen ∧ B ≤ g := by
  rcases h.2 with ⟨h1, _⟩ | ⟨g', cap', cur, h1, h2, h3, h4, h5, h6, h7⟩
  · cases h1
  · injection h1 with h1 h8 h9
    injection h1 with h1
    injection h1 with h1
    subst h1 h9
    rw [Nat.mul_one] at h6 h7
    rw [icells_length] at h4 h7 h8
    have e : icells Z ++ cur.toList.drop Z.length = cur.toList := by rw [← h7]; simp
    refine ⟨cur.toList.drop Z.length, ?_, ?_, h8, by omega, h5, h2⟩
    · unfold RowI; rw [e]; exact h3
    · rw [e]; simpa using h6
theorem RowI.owns {w : World} {B g cap : Nat} {Z : List Nat} {rest : List Value} (h : RowI w g Z rest) (hl : (icells Z ++ rest).length = cap) (hm : cap ≤ maxLen) (hB : B ≤ g) : Owns w B 3 (.slice (some ⟨g, 0, none⟩) Z.length cap) (icells Z) := by
  unfold Owns
  rw [icells_length]
  refine ⟨by rw [icells_length]; simp, .inr ⟨g, cap, _, rfl, hB, h, ?_, hm, ?_, ?_⟩⟩
  · rw [List.length_append, icells_length] at hl; omega
  · simpa using hl
  · simp [← icells_length]

set_option maxRecDepth 100000 in
set_option maxHeartbeats 8000000 in
theorem leaves_any (v : Value) (ws : List Nat) (w : World) (hv : NumsAt w v ws) (hl : ws.length ≤ 512) (hne : 0 < (have_ ws ws.length).length) :
    Calls Tryd.prog 16 #[v] w fun e w' => ∃ g cap order, e = .returned (.slice (some ⟨g, 0, none⟩) order.length cap) ∧ OrderOf ws order ∧ Owns w' w.heap.size 3 (.slice (some ⟨g, 0, none⟩) order.length cap) (icells order) ∧ Hid (w.grownBy w' none) := by
  have HV := Lib.hid hv
  obtain ⟨a, cp, rfl, hm, hc0⟩ := hv
  have Hc : Hid (∀ W : World, w.grownBy W none → ∀ i (hi : i < ws.length), ∃ x, a = some x ∧ W.cell? (x.add i) = some (.int .u64 (ws[i] : Nat))) := fun W hb => NumsAt.bel hc0 (bel_grown hb (Nat.le_refl _))
  obtain ⟨n, hn⟩ : ∃ n, n = ws.length := ⟨_, rfl⟩
  have Hn := Lib.hid hn
  have Hne := Lib.hid hne
  rw [← hn] at hl HV ⊢
  have Hl := Lib.hid hl
  have hl' : (n : Int) ≤ 512 := by omega
  clear hm hc0 hn hne
  go_enter Tryd.func16, Tryd.ntmps16
  go_wp2_with fail
  have hbox := heap_alloc_new w (.cells #[.slice a n cp] 24)
  have hgb := World.grownBy_alloc w (.cells #[.slice a n cp] 24) none
  generalize hW : w.alloc (.cells #[.slice a n cp] 24) = w1 at hbox hgb ⊢
  have HBs : Hid (w1.heap.size = w.heap.size + 1) := by show _ = _; rw [← hW]; simp
  obtain ⟨c, hce⟩ : ∃ c, c = w.heap.size := ⟨_, rfl⟩
  rw [← hce] at hbox ⊢
  have Hce := Lib.hid hce
  have Hbox := Lib.hid hbox
  have Hgb := Lib.hid hgb
  clear hW hce hgb hbox
  go_loopw [3, 8] (fun ov iv wr => ∃ (i : Nat), iv = .int .i64 (i : Nat) ∧ i ≤ n ∧ Hid (Owns wr (c + 1) 3 ov (icells (have_ ws i))) ∧ Hid (w1.grownBy wr none)) (fun _ iv _ => n - (intOf iv).toNat)
  case atStart => exact ⟨0, rfl, Nat.zero_le _, Owns.nil _ _ _, grown_self _ _⟩
  case round =>
    obtain ⟨i, rfl, hi, ho, hg⟩ := hrel
    have HBw : Hid (c + 1 ≤ wr.heap.size) := by have := hg.out.size; have := HBs.out; have := Hce.out; show _ ≤ _; omega
    by_cases hlt : i < n
    · have hiL : i < ws.length := by have := Hn.out; omega
      obtain ⟨x, rfl, hx⟩ := Hc.out wr (grown_trans Hgb.out hg.out) i hiL
      have hws : wt ws i = ws[i] := by unfold wt; simp [List.getD, hiL]
      have hsuc := have_succ ws i
      rw [hws] at hsuc
      generalize ws[i] = u at hx hsuc
      clear hiL hws
      by_cases hu : 0 < u
      · rw [if_pos hu] at hsuc
        have Hs := Lib.hid hsuc
        have Hl1 : Hid (((icells (have_ ws i)).length + 1) * 8 ≤ 140737488355328) := by show _ ≤ _; rw [icells_length]; have := have_le ws i; omega
        have Hl2 : Hid ((icells (have_ ws i)).length + 1 ≤ maxLen) := by show _ ≤ _; rw [icells_length]; have := have_le ws i; unfold maxLen; omega
        have hu' : (0 : Int) < (u : Int) := by omega
        clear hsuc
        go_wp2_with (first
          | (at_builtin; refine wpList_add1 rfl (.tmp 15) (.tmp 17) 26 rfl (c + 1) 3 (.int .i64 0) 8 elemInts _ (icells (have_ ws i)) rfl ho.out (.int .i64 (i : Nat)) rfl rfl Hl1.out Hl2.out HBw.out ?_; intro g cap w2 ho2 hg2; have HO2 := Lib.hid ho2; have HG2 := Lib.hid hg2; clear ho2 hg2))
        have hb2 := HG2.out.below ho.out HBw.out
        refine ⟨⟨i + 1, by rw [Int.natCast_add]; rfl, by omega, ?_, ?_⟩, by simp [intOf]; omega⟩
        · show Owns _ _ _ _ _
          rw [Hs.out, icells_append]; exact HO2.out
        · have h1 : Below w1.heap.size w1 wr := bel_grown hg.out (Nat.le_refl _)
          have h2 : Below w1.heap.size wr w2 := hb2.mono (by have := HBs.out; have := Hce.out; omega)
          exact grown_bel (h1.trans h2) none
      · rw [if_neg hu] at hsuc
        have Hs := Lib.hid hsuc
        have hu' : ¬ (0 : Int) < (u : Int) := by omega
        clear hsuc hu
        go_wp2_with fail
        refine ⟨⟨i + 1, by rw [Int.natCast_add]; rfl, by omega, ?_, hg⟩, by simp [intOf]; omega⟩
        show Owns _ _ _ _ _
        rw [Hs.out]; exact ho.out
    · have hin : i = n := by omega
      have hin2 : have_ ws i = have_ ws ws.length := by rw [hin, Hn.out]
      have ho2 := ho.out
      rw [hin2] at ho2
      rcases ho2.shape with ⟨_, h2⟩ | ⟨g, cap, hv3, _⟩
      · exfalso
        have := Hne.out
        have h3 := congrArg List.length h2
        rw [icells_length] at h3
        simp at h3
        simp [h3] at this
      subst hv3
      rw [icells_length] at ho2 ⊢
      obtain ⟨rest, hrow, hrl, _, hnc, hcm, hBg⟩ := ho2.row
      obtain ⟨Z, hZ⟩ : ∃ Z, Z = have_ ws ws.length := ⟨_, rfl⟩
      rw [← hZ] at hrow hrl ho2 hnc ⊢
      have hZl : Z.length ≤ 512 := by rw [hZ]; have := have_le ws ws.length; have := Hl.out; have := Hn.out; omega
      have hcg : c < g := by omega
      have HCmp : CmpOK wr g 37 (.pointer (some ⟨c, 0, none⟩)) (fun z => z < ws.length) (wt ws) := fun W hW x y hx hy => by
        have hb0 : Below (c + 1) wr W := (Below.refl _ _).grown hW HBw.out (fun k e => by cases e; exact hBg)
        have hgW : w.grownBy W none := by
          have h1 : Below w.heap.size w wr := bel_grown (grown_trans Hgb.out hg.out) (Nat.le_refl _)
          exact grown_bel (h1.trans (hb0.mono (by have := Hce.out; omega))) none
        have hbx : W.heap[c]? = some (.cells #[.slice a n cp] 24 (0, 0)) := (hb0.block c (by omega)).trans (row_kept Hbox.out hg.out (by simp))
        exact cmp_any c (.slice a n cp) ws x y W (row_cell hbx 0 _ rfl) (HV.out.grown hgW) hx hy (by have := Hl.out; have := Hn.out; omega)
      have HS := Lib.hid (stableFunc_any g Z.length cap rest (.pointer (some ⟨c, 0, none⟩)) (fun z => z < ws.length) (wt ws) wr HCmp (by omega) hnc Z rfl (fun z hz => by rw [hZ] at hz; exact (have_lt ws _ z hz).1) hrow)
      have HZ := Lib.hid hZ
      have Hrl := Lib.hid hrl
      have Hcm := Lib.hid hcm
      have HBg := Lib.hid hBg
      clear ho2 hrow hrl hnc hcm hBg HCmp hZ hin hin2 ho Hc
      go_wp2_with fail
      refine HS.out.mono ?_
      rintro e w2 ⟨rfl, Z', h1, h2, h3, h4⟩
      have hl2 := h2.length_eq
      have H1 := Lib.hid h1
      have H2 := Lib.hid h2
      have H3 := Lib.hid h3
      have Hl2 := Lib.hid hl2
      clear h1 h2 h3 hl2
      simp only []
      go_wp2_with fail
      go_ret
      refine ⟨g, cap, Z', by rw [Hl2.out]; rfl, ⟨by rw [← HZ.out]; exact H2.out, H3.out⟩, H1.out.owns ?_ Hcm.out (by have := HBg.out; have := Hce.out; omega), ?_⟩
      · rw [List.length_append, icells_length, Hl2.out]
        have := Hrl.out
        rwa [List.length_append, icells_length] at this
      · have h1 : Below w.heap.size w wr := bel_grown (grown_trans Hgb.out hg.out) (Nat.le_refl _)
        have h2 : Below w.heap.size wr w2 := (Below.refl _ _).grown h4.out h1.size (fun k e => by cases e; have := HBg.out; have := Hce.out; omega)
        exact grown_bel (h1.trans h2) none
end Go.Proofs.YtidmmcgnghdfdaaDoor
