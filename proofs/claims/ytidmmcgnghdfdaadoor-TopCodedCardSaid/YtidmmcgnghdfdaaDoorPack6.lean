/- What pack's Lengths tells. -/
import Derived.Test.YtidmmcgnghdfdaaDoorPack5
namespace Go.Proofs.YtidmmcgnghdfdaaDoor
open Go.RowKit SortPlain PackPlain
set_option linter.unusedVariables false

/-- the lengths, set one by one -/
def asg (order : List Nat) (c : Nat → Nat) : Nat → Nat → Nat
  | 0, _ => 0
  | k + 1, s => if s = order.getD k 0 then c k else asg order c k s
/-- the k-th leaf's length -/
def cof (W order : List Nat) (l : Nat) : Nat → Nat := if order.length = 1 then fun _ => 1 else cnt (order.map (wt W)) (l - 1) (2 * order.length - 2)
theorem OrderOf.srtN {W order : List Nat} (h : OrderOf W order) : SrtN (order.map (wt W)) := List.pairwise_map.2 h.srt
theorem OrderOf.lt {W order : List Nat} (h : OrderOf W order) : ∀ o ∈ order, o < W.length := fun o ho => (have_lt W W.length o (h.perm.mem_iff.1 ho)).1
theorem OrderOf.len {W order : List Nat} (h : OrderOf W order) : order.length = (have_ W W.length).length := h.perm.length_eq
theorem lev_bound (ws : List Nat) (m : Nat) (h : ∀ x ∈ ws, x ≤ m) : ∀ j, ∀ x ∈ wts (lev ws j), x ≤ 2 ^ j * m
  | 0, x, hx => by
    rcases mem_mrg ws 0 [] x hx with h1 | h1
    · simpa using h x h1
    · simp at h1
  | j + 1, x, hx => by
    have e : 2 ^ (j + 1) * m = 2 * (2 ^ j * m) := by rw [Nat.pow_succ]; ac_rfl
    have hp : 0 < 2 ^ j := Nat.two_pow_pos j
    have hm : m ≤ 2 ^ j * m := Nat.le_mul_of_pos_left _ hp
    rcases mem_mrg ws 0 (pks (lev ws j) 0) x hx with h1 | h1
    · have := h x h1; omega
    · rw [pks_pw] at h1
      have key : ∀ (l : List Nat) (v : Nat), (∀ z ∈ l, z ≤ v) → ∀ p ∈ pw l, p ≤ 2 * v := by
        intro l v
        induction l using pw.induct with
        | case1 x y l ih =>
          intro h p hp
          rw [pw] at hp
          rcases List.mem_cons.1 hp with rfl | hp
          · have := h x (by simp); have := h y (by simp); omega
          · exact ih (fun z hz => h z (by simp [hz])) p hp
        | case2 l hl =>
          intro h p hp
          match l, hl with
          | [], _ => simp [pw] at hp
          | [a], _ => simp [pw] at hp
          | a :: b :: l', hl => exact absurd rfl (hl a b l')
      have := key _ _ (fun z hz => lev_bound ws m h j z hz) x h1
      omega
theorem lev_len_bound (ws : List Nat) (h : ws.length ≤ 512) : ∀ j, (lev ws j).length ≤ 1024
  | 0 => by rw [lev_length_zero]; omega
  | j + 1 => by have := lev_len_bound ws h j; rw [lev_length_succ]; omega
theorem wt_le {W : List Nat} {m : Nat} (h : ∀ x ∈ W, x ≤ m) (o : Nat) : wt W o ≤ m := by
  unfold wt
  rw [List.getD_eq_getElem?_getD]
  rcases Nat.lt_or_ge o W.length with h1 | h1
  · rw [List.getElem?_eq_getElem h1]; exact h _ (List.getElem_mem h1)
  · rw [List.getElem?_eq_none h1]; exact Nat.zero_le _
theorem elemLevs : ElemOf Tryd.prog 51 49 (.slice none 0 0) 24 := ⟨Tryd.underlying51, by kernel_rfl, rfl⟩
theorem IntsAt.of_crow {W : World} {G n : Nat} {f : Nat → Nat} {t : TypeId} (h : W.heap[G]? = some (.cells (crow n f) t (0, 0))) (hn : n ≤ 512) : IntsAt W (.slice (some ⟨G, 0, none⟩) n n) ((List.range n).map f) :=
  ⟨some ⟨G, 0, none⟩, n, by simp, by simp [maxLen]; omega, fun i hi => ⟨G, rfl, by rw [row_cell h i _ (crow_get n f i (by simpa using hi))]; simp⟩⟩
theorem asg_succ (n k : Nat) (order : List Nat) (c : Nat → Nat) (o v : Nat) (ho : o < n) (hk : order.getD k 0 = o) (hv : c k = v) : (crow n (asg order c k)).setIfInBounds o (.int .i64 (v : Nat)) = crow n (asg order c (k + 1)) :=
  crow_set n _ _ o ho v (by show (if o = order.getD k 0 then c k else _) = v; rw [hk, if_pos rfl, hv]) (fun s hs => by show (if s = order.getD k 0 then c k else _) = _; rw [hk, if_neg hs])
def lenOf : Value → Nat
  | .slice _ n _ => n
  | _ => 0
theorem LevAt.past {V V' : World} {x : Value} {l : List It} (h : LevAt V x l) {ga : Nat} {s : Value} (hc : V.cell? ⟨ga, 0, none⟩ = some s) (hs : ∀ n, s ≠ .int .u64 n) (hg : V.grownBy V' (some ga)) : LevAt V' x l := by
  refine h.only hg (fun g ⟨a, cap, n, hv, ha⟩ => ?_)
  rcases Nat.eq_zero_or_pos l.length with h0 | h0
  · exact .inr (List.length_eq_zero_iff.1 h0)
  · refine .inl (fun e => ?_)
    subst e
    obtain ⟨a', cap', h1, h2, h3⟩ := h
    obtain ⟨g', h4, h5⟩ := h3 0 h0
    rw [hv] at h1
    injection h1 with h1
    rw [ha, h4] at h1
    injection h1 with h1
    injection h1 with h1
    subst h1
    have e0 : ∀ z : It, (itc z)[0]? = some (.int .u64 (z.w : Nat)) := fun z => by cases z <;> rfl
    have h6 := h5 0 _ (e0 _)
    rw [show 0 * 3 + 0 = 0 by omega, hc] at h6
    injection h6 with h6
    exact hs _ h6
theorem LevAt.slice {V : World} {x : Value} {l : List It} (h : LevAt V x l) : ∀ n, x ≠ .int .u64 n := by
  obtain ⟨a, cap, rfl, _⟩ := h
  intro n e; cases e

set_option maxRecDepth 100000 in
set_option maxHeartbeats 8000000 in
theorem lengths_in (v : Value) (W : List Nat) (l : Nat) (w : World) (hv : NumsAt w v W) (hl : W.length ≤ 512) (hW : ∀ x ∈ W, x ≤ 1099511627776) (hne : 0 < (have_ W W.length).length) (h1 : 1 ≤ l) (h2 : l ≤ 15) :
    Calls Tryd.prog 5 #[v, .int .i64 (l : Nat)] w fun e w' => ∃ order, OrderOf W order ∧ Hid (w.grownBy w' none) ∧ ((2 ^ l < order.length ∧ e = .returned (.tuple #[.slice none 0 0, .int .i64 8])) ∨ (order.length ≤ 2 ^ l ∧ ∃ r, e = .returned (.tuple #[r, .int .i64 0]) ∧ IntsAt w' r ((List.range W.length).map (asg order (cof W order l) order.length)))) := by
  have HV := Lib.hid hv
  have HA := Lib.hid (alphabet_any v W w hv hl hW)
  have HLv := Lib.hid (leaves_any v W w hv hl hne)
  have hmk := run_makeInts W.length (by omega)
  simp only [crow_zero] at hmk
  have HW := Lib.hid hW
  have Hne := Lib.hid hne
  have h1' : 1 ≤ (l : Int) := by omega
  have h2' : (l : Int) ≤ 15 := by omega
  obtain ⟨P, hP⟩ : ∃ P, P = 2 ^ l := ⟨_, rfl⟩
  have hP1 : P ≤ 32768 := by rw [hP]; exact Nat.pow_le_pow_right (by omega) h2
  have hsh : wrap64 ((2 : Int) ^ l) = (P : Int) := by
    have e : ((2 : Int) ^ l) = (P : Int) := by rw [hP]; simp
    rw [e]
    unfold wrap64; omega
  have HP := Lib.hid hP
  rw [← hP]
  clear hP
  obtain ⟨a, cp, rfl, hm, hcc⟩ := hv
  clear hm hcc hW hne
  obtain ⟨n0, hn0⟩ : ∃ n0, n0 = W.length := ⟨_, rfl⟩
  have Hn0 := Lib.hid hn0
  rw [← hn0] at hmk HA HLv HV hl ⊢
  have hl' : (n0 : Int) ≤ 512 := by omega
  clear hn0
  go_enter Tryd.func5, Tryd.ntmps5
  go_wp2_with (first
    | (go_at_call 14; refine HA.out.mono ?_; rintro e w1 ⟨rfl, hw1⟩; obtain rfl : w = w1 := hw1.symm)
    | (go_at_call 15; refine (bits_ok _ _ (by omega) (by omega)).mono ?_; rintro e w1 ⟨rfl, hw1⟩; obtain rfl : w = w1 := hw1.symm)
    | fail)
  refine HLv.out.mono ?_
  rintro e w1 ⟨g, cap, order, rfl, how, ho, hg⟩
  obtain ⟨n, hn⟩ : ∃ n, n = order.length := ⟨_, rfl⟩
  have hno := how.len
  have hnb : n ≤ 512 := by have := have_le W W.length; have := Hn0.out; omega
  have hn1 : 1 ≤ n := by have := Hne.out; omega
  have HI1 : Hid (IntsAt w1 (.slice (some ⟨g, 0, none⟩) n cap) order) := by rw [hn]; exact IntsAt.of_owns ho (by unfold maxLen; omega)
  have HO := Lib.hid how
  have hgl : g < w1.heap.size := (ho.block_lt g rfl).2
  rw [← hn]
  have Hn := Lib.hid hn
  have hnb' : (n : Int) ≤ 512 := by omega
  have hn1' : 1 ≤ (n : Int) := by omega
  clear hn hno how ho HLv HA
  have q0 := heap_alloc_new w1 (.cells (crow n0 (fun _ => 0)) 3)
  have g0 := World.grownBy_alloc w1 (.cells (crow n0 (fun _ => 0)) 3) none
  have Hcell : Hid (∀ V, w1.grownBy V (some w1.heap.size) → ∀ k, k < n → ∃ o : Nat, V.cell? ⟨g, k, none⟩ = some (.int .i64 (o : Nat)) ∧ o < n0 ∧ order.getD k 0 = o) := fun V hV k hk => by
    obtain ⟨a', c', h1, h2, h3⟩ := HI1.out
    have hk2 : k < order.length := by rw [← Hn.out]; exact hk
    obtain ⟨g', h4, h5⟩ := h3 k hk2
    injection h1 with h1
    rw [← h1] at h4
    injection h4 with h4
    injection h4 with h4
    subst h4
    refine ⟨order[k], hV.cell h5 (fun e => by injection e with e; simp only at e; omega), by rw [Hn0.out]; exact HO.out.lt _ (List.getElem_mem hk2), by simp [List.getD, hk2]⟩
  by_cases hbig : P < n
  · have hbig' : (P : Int) < (n : Int) := by omega
    clear q0 g0 Hcell
    simp only []
    go_wp2_with fail
    go_ret2
    exact ⟨order, HO.out, grown_trans hg.out (World.grownBy_alloc _ _ _), .inl ⟨by rw [← Hn.out]; exact hbig, rfl⟩⟩
  have hbig' : (n : Int) ≤ (P : Int) := by omega
  by_cases hone : n = 1
  · have hone' : (n : Int) = 1 := by omega
    obtain ⟨o, c1, ho1, ho2⟩ := Hcell.out _ (World.grownBy_alloc w1 (.cells (crow n0 (fun _ => 0)) 3) _) 0 (by omega)
    have c2 := row_cell q0 o _ (crow_get n0 _ o ho1)
    have c3 := row_free q0 o
    have hoi : (o : Int) < (n0 : Int) := by omega
    have Hq0 := Lib.hid q0
    clear q0 g0 Hcell hbig
    simp only []
    go_wp2_with fail
    go_ret2
    have ha := asg_succ n0 0 order (fun _ => 1) o 1 ho1 ho2 rfl
    have hc1 : cof W order l = fun _ => 1 := by unfold cof; rw [← Hn.out, if_pos hone]
    refine ⟨order, HO.out, grown_trans hg.out (World.grownBy_alloc _ _ _), .inr ⟨by rw [← Hn.out]; omega, _, rfl, ?_⟩⟩
    rw [hc1, ← Hn.out, hone]
    refine IntsAt.of_crow (t := 3) ?_ hl
    rw [heap_alloc_new, ← ha]
    rfl
  · have hone' : ¬ (n : Int) = 1 := by omega
    obtain ⟨ws, hws⟩ : ∃ ws, ws = order.map (wt W) := ⟨_, rfl⟩
    have Hws := Lib.hid hws
    have Hwl : Hid (ws.length = n) := by show _ = _; rw [hws, List.length_map, ← Hn.out]
    have HS : Hid (SrtN ws) := by show SrtN ws; rw [hws]; exact HO.out.srtN
    have HNx : Hid (∀ V, w1.grownBy V none → ∀ vl (lvl : List It), LevAt V vl lvl → (lvl = [] ∨ ∃ j, j < 15 ∧ lvl = lev ws j) → Calls Tryd.prog 17 #[.slice a n0 cp, .slice (some ⟨g, 0, none⟩) n cap, vl] V fun e w' => ∃ v', e = .returned v' ∧ LevAt w' v' (nxt ws lvl) ∧ Hid (V.grownBy w' none)) := fun V hV vl lvl hlv hj => by
      rw [Hws.out]
      refine next_any _ _ _ W order lvl (2 ^ 14 * 1099511627776) V (HV.out.grown (grown_trans hg.out hV)) (HI1.out.grown hV) hlv HO.out.lt (by rw [← Hn0.out]; exact hl) (by rw [← Hn.out]; exact hnb) ?_ (fun x hx => by have := HW.out x hx; omega) ?_ (by omega)
      · rcases hj with rfl | ⟨j, _, rfl⟩
        · simp
        · have := lev_len_bound ws (by rw [Hwl.out]; exact hnb) j; omega
      · rcases hj with rfl | ⟨j, hj, rfl⟩
        · intro x hx; simp at hx
        · intro x hx
          have h1 := lev_bound ws 1099511627776 (fun y hy => by rw [Hws.out] at hy; obtain ⟨o, _, rfl⟩ := List.mem_map.1 hy; exact wt_le HW.out o) j x.w (List.mem_map.2 ⟨x, hx, rfl⟩)
          have h2 : 2 ^ j ≤ 2 ^ 14 := Nat.pow_le_pow_right (by omega) (by omega)
          exact Nat.le_trans h1 (Nat.mul_le_mul_right _ h2)
    clear hws
    obtain ⟨G, hG⟩ : ∃ G, G = w1.heap.size := ⟨_, rfl⟩
    have HG := Lib.hid hG
    simp only []
    go_wp2_with fail
    refine (HNx.out _ g0 _ [] ⟨none, 0, rfl, ⟨Nat.zero_le _, Nat.le_refl _⟩, fun j hj => by simp at hj⟩ (.inl rfl)).mono ?_
    rintro e w3 ⟨v0, rfl, hv0, hg3⟩
    have Hv0 := Lib.hid hv0
    obtain ⟨a0, c0, rfl, -⟩ := hv0
    obtain ⟨N0, hN0⟩ : ∃ N0, N0 = (nxt ws []).length := ⟨_, rfl⟩
    rw [← hN0] at Hv0 ⊢
    clear hN0
    have q3 := row_kept q0 hg3.out (by simp)
    have Hg3 : Hid (w1.grownBy w3 none) := grown_trans g0 hg3.out
    rw [← hG] at q3 Hcell hgl ⊢
    clear q0 g0 hg3 hG
    simp only []
    go_wp2_with fail
    have g4 := World.grownBy_alloc w3 (.cells #[.slice a0 N0 c0] 49) none
    have HOw : Hid (Owns (w3.alloc (.cells #[.slice a0 N0 c0] 49)) (G + 1) 49 (.slice (some ⟨w3.heap.size, 0, none⟩) 1 1) [.slice a0 N0 c0]) := World.ownsRow_lit w3 #[.slice a0 N0 c0] 1 (by have := (row_lt q3); omega) (by decide) rfl
    have Q4 := Lib.hid (row_kept q3 g4 (by simp))
    have Hv4 := Lib.hid (Hv0.out.grown g4)
    have Hg4 : Hid (w1.grownBy (w3.alloc (.cells #[.slice a0 N0 c0] 49)) none) := grown_trans Hg3.out g4
    clear g4 q3
    generalize w3.alloc (.cells #[.slice a0 N0 c0] 49) = w4 at *
    go_loopw [9] (fun lv wr => ∃ (k ga cpa : Nat) (vs : List Value), lv = .slice (some ⟨ga, 0, none⟩) k cpa ∧ 1 ≤ k ∧ k ≤ l ∧ Hid (vs.length = k) ∧ Hid (Owns wr (G + 1) 49 lv vs) ∧ Hid (∀ j, j < k → LevAt wr (vs.getD j undef) (lev ws j)) ∧ Hid (w1.grownBy wr none) ∧ Hid (w4.heap.size ≤ wr.heap.size ∧ wr.heap[G]? = some (.cells (crow n0 (fun _ => 0)) 3 (0, 0)))) (fun lv _ => l - lenOf lv)
    case atStart =>
      have hv : Hid (∀ j, j < 1 → LevAt w4 ([Value.slice a0 N0 c0].getD j undef) (lev ws j)) := fun j hj => by
        have e : j = 0 := by omega
        subst e
        exact Hv4.out
      exact ⟨1, _, 1, [.slice a0 N0 c0], rfl, Nat.le_refl _, h1, rfl, HOw, hv, Hg4, Nat.le_refl _, Q4.out⟩
    case round =>
      obtain ⟨k, ga, cpa, vs, rfl, hk1, hk, hvs, ho, hlv, hgw, hrw⟩ := hrel
      by_cases hlt : k < l
      · have hvsl := hvs.out
        have hkk : k - 1 < k := by omega
        have hl1 := hlv.out (k - 1) hkk
        have c1 : wr.cell? ⟨ga, k - 1, none⟩ = some (vs.getD (k - 1) undef) := by
          rw [ho.out.cell (k - 1) (by omega)]; simp [List.getD, show k - 1 < vs.length by omega]
        have c0 : Hid (∃ s, (∀ n, s ≠ .int .u64 n) ∧ wr.cell? ⟨ga, 0, none⟩ = some s) := ⟨vs.getD 0 undef, (hlv.out 0 (by omega)).slice, by rw [ho.out.cell 0 (by omega)]; simp [List.getD, show 0 < vs.length by omega]⟩
        obtain ⟨vk, hvk⟩ : ∃ vk, vk = vs.getD (k - 1) undef := ⟨_, rfl⟩
        rw [← hvk] at hl1 c1
        have HL1 := Lib.hid hl1
        obtain ⟨a1, c1', rfl, -⟩ := hl1
        obtain ⟨N1, hN1⟩ : ∃ N1, N1 = (lev ws (k - 1)).length := ⟨_, rfl⟩
        rw [← hN1] at HL1 c1
        have Hnx : Hid (nxt ws (lev ws (k - 1)) = lev ws k) := by
          obtain ⟨q, rfl⟩ : ∃ q, k = q + 1 := ⟨k - 1, by omega⟩
          rfl
        have hki : (k : Int) < (l : Int) := by omega
        have hk1i : 1 ≤ (k : Int) := by omega
        clear hvk hN1 hvsl hkk
        go_wp2_with fail
        refine (HNx.out wr hgw.out _ _ HL1.out (.inr ⟨k - 1, by omega, rfl⟩)).mono ?_
        rintro e w5 ⟨v5, rfl, hv5, hg5⟩
        rw [Hnx.out] at hv5
        have Hv5 := Lib.hid hv5
        obtain ⟨a5, c5, rfl, -⟩ := hv5
        obtain ⟨N5, hN5⟩ : ∃ N5, N5 = (lev ws k).length := ⟨_, rfl⟩
        rw [← hN5] at Hv5 ⊢
        have Ho5 : Hid (Owns w5 (G + 1) 49 (.slice (some ⟨ga, 0, none⟩) k cpa) vs) := ho.out.kept_of hg5.out (.inl (by intro e; cases e))
        have HBw : Hid (G + 1 ≤ w5.heap.size) := by have := row_lt hrw.out.2; have := hg5.out.size; show _ ≤ _; omega
        have Hl1 : Hid ((vs.length + 1) * 24 ≤ 140737488355328) := by show _ ≤ _; have := hvs.out; omega
        have Hl2 : Hid (vs.length + 1 ≤ maxLen) := by show _ ≤ _; have := hvs.out; unfold maxLen; omega
        clear hN5 c1
        obtain rfl : k = vs.length := hvs.out.symm
        simp only []
        go_wp2_with (first
          | (at_builtin; refine wpList_add1 rfl (.tmp 52) (.tmp 62) 51 rfl (G + 1) 49 (.slice none 0 0) 24 elemLevs _ vs rfl Ho5.out (.slice a5 N5 c5) rfl rfl Hl1.out Hl2.out HBw.out ?_; intro g2 cap2 w6 ho6 hg6; have HO6 := Lib.hid ho6; have HG6 := Lib.hid hg6; clear ho6 hg6)
          | fail)
        have hpast : ∀ (x : Value) (lx : List It), LevAt w5 x lx → LevAt w6 x lx := fun x lx hx => by
          obtain ⟨s, hs1, hs2⟩ := c0.out
          exact hx.past (hg5.out.cell hs2 (by simp)) hs1 HG6.out.grown
        have hbl := HG6.out.below Ho5.out HBw.out
        refine ⟨⟨by omega, vs ++ [.slice a5 N5 c5], by show _ = _; simp, HO6, ?_, ?_, ?_, ?_⟩, by simp [lenOf]; omega⟩
        · show ∀ j, j < vs.length + 1 → LevAt w6 ((vs ++ [Value.slice a5 N5 c5]).getD j undef) (lev ws j)
          intro j hj
          rcases Nat.lt_or_ge j vs.length with h | h
          · have e : (vs ++ [Value.slice a5 N5 c5]).getD j undef = vs.getD j undef := by simp [List.getD, List.getElem?_append_left h]
            rw [e]
            exact hpast _ _ ((hlv.out j h).grown hg5.out)
          · obtain rfl : j = vs.length := by omega
            have e : (vs ++ [Value.slice a5 N5 c5]).getD vs.length undef = .slice a5 N5 c5 := by simp [List.getD]
            rw [e]
            exact hpast _ _ Hv5.out
        · exact grown_bel ((bel_grown (grown_trans hgw.out hg5.out) (Nat.le_refl _)).trans (hbl.mono (by have := HG.out; omega))) none
        · have := hrw.out.1; have := hg5.out.size; have := hbl.size; omega
        · exact (hbl.block G (by omega)).trans (row_kept hrw.out.2 hg5.out (by simp))
      · obtain rfl : k = l := by omega
        go_wp2_with fail
        refine (count_any ga k cpa n (fun j => vs.getD j undef) ws wr HS.out Hwl.out (by omega) hnb (by omega) h2 (fun j hj => by rw [ho.out.cell j (by rw [hvs.out]; exact hj)]; simp [List.getD, show j < vs.length by rw [hvs.out]; exact hj]) hlv.out ?_ (fun j hj => by have := lev_len_bound ws (by rw [Hwl.out]; exact hnb) j; omega)).mono ?_
        · have h3 := lev_ge ws (k - 1) (by rw [Hwl.out, show k - 1 + 1 = k by omega, ← HP.out]; omega)
          rw [Hwl.out] at h3
          exact h3
        rintro e w5 ⟨v5, rfl, ⟨g5, rfl, hg5⟩, hI5, hw5⟩
        have HI5 := Lib.hid hI5
        have hgG : g5 ≠ G := by have := row_lt hrw.out.2; omega
        have Q5 := Lib.hid (row_kept hrw.out.2 hw5.out (by simp))
        have HW5 : Hid (w1.grownBy w5 none) := grown_trans hgw.out hw5.out
        have Hcnt : Hid (∀ V, w5.grownBy V (some G) → ∀ q, q < n → V.cell? ⟨g5, q, none⟩ = some (.int .i64 (cof W order k q : Nat))) := fun V hV q hq => by
          obtain ⟨a', c', h1, h2, h3⟩ := HI5.out
          obtain ⟨g', h4, h5⟩ := h3 q (by simpa using hq)
          injection h1 with h1
          rw [← h1] at h4
          injection h4 with h4
          injection h4 with h4
          subst h4
          have e : cof W order k = cnt ws (k - 1) (2 * n - 2) := by unfold cof; rw [← Hn.out, if_neg hone, ← Hws.out]
          rw [e, hV.cell h5 (fun e => by injection e with e; exact hgG e)]
          simp
        clear hI5 hg5 hw5 ho hlv hgw hrw hvs HOw Hv4 Hg4 Q4
        simp only []
        go_wp2_with fail
        go_loopw [69] (fun iv wr2 => ∃ q : Nat, iv = .int .i64 (q : Nat) ∧ q ≤ n ∧ Hid (wr2.heap[G]? = some (.cells (crow n0 (asg order (cof W order k) q)) 3 (0, 0))) ∧ Hid (w5.grownBy wr2 (some G))) (fun iv _ => n - (intOf iv).toNat)
        case atStart => exact ⟨0, rfl, Nat.zero_le _, Q5.out, grown_self _ _⟩
        case round =>
          obtain ⟨q, rfl, hq, hr2, hg2⟩ := hrel
          by_cases hqn : q < n
          · obtain ⟨o, c1, ho1, ho2⟩ := Hcell.out wr (grown_trans (grown_bel (bel_grown HW5.out (Nat.le_refl _)) _) hg2.out) q hqn
            have c2 := Hcnt.out wr hg2.out q hqn
            have c3 := row_cell hr2.out o _ (crow_get n0 _ o ho1)
            have c4 := row_free hr2.out o
            have hoi : (o : Int) < (n0 : Int) := by omega
            have hqi : (q : Int) < (n : Int) := by omega
            obtain ⟨cv, hcv⟩ : ∃ cv, cv = cof W order k q := ⟨_, rfl⟩
            rw [← hcv] at c2
            have Hcv := Lib.hid hcv
            have Ho2 := Lib.hid ho2
            clear hcv ho2
            go_wp2_with fail
            refine ⟨⟨q + 1, by rw [Int.natCast_add]; rfl, by omega, ?_, grown_trans hg2.out (grown_setCell _ ⟨G, o, none⟩ _)⟩, by simp [intOf]; omega⟩
            show _ = _
            rw [heap_setCell_same _ G o _ _ _ hr2.out, asg_succ n0 q order _ o cv ho1 Ho2.out Hcv.out.symm]
          · obtain rfl : q = n := by omega
            go_wp2_with fail
            go_ret2
            refine ⟨order, HO.out, ?_, .inr ⟨by rw [← Hn.out]; omega, _, rfl, ?_⟩⟩
            · exact grown_bel ((bel_grown (grown_trans hg.out HW5.out) (Nat.le_refl _)).grown hg2.out (grown_trans hg.out HW5.out).size (fun r e => by injection e with e; have := HG.out; have := hg.out.size; omega)) none
            · rw [← Hn.out]
              exact IntsAt.of_crow hr2.out hl
end Go.Proofs.YtidmmcgnghdfdaaDoor
