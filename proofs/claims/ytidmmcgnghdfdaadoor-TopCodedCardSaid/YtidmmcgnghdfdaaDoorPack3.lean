/- What pack's next level is. -/
import Derived.Test.YtidmmcgnghdfdaaDoorPack2
import Derived.Test.YtidmmcgnghdfdaaDoorPackPlain2
namespace Go.Proofs.YtidmmcgnghdfdaaDoor
open Go.RowKit SortPlain PackPlain
set_option linter.unusedVariables false

def itc : It → List Value
  | .leaf w k => [.int .u64 (w : Nat), .int .i64 (k : Nat), .int .i64 0]
  | .pack w i => [.int .u64 (w : Nat), .int .i64 (-1), .int .i64 (i : Nat)]
def itcells : List It → List Value
  | [] => []
  | x :: l => itc x ++ itcells l
theorem itcells_append (l m : List It) : itcells (l ++ m) = itcells l ++ itcells m := by
  induction l with
  | nil => rfl
  | cons x l ih => show itc x ++ itcells (l ++ m) = itc x ++ itcells l ++ itcells m; rw [ih, List.append_assoc]
theorem itc_length (x : It) : (itc x).length = 3 := by cases x <;> rfl
theorem itcells_length (l : List It) : (itcells l).length = l.length * 3 := by
  induction l with
  | nil => rfl
  | cons x l ih => show (itc x ++ itcells l).length = _; rw [List.length_append, itc_length, ih, List.length_cons]; omega
theorem itcells_get (l : List It) (j : Nat) (hj : j < l.length) (q : Nat) (hq : q < 3) : (itcells l)[j * 3 + q]? = (itc l[j])[q]? := by
  induction l generalizing j with
  | nil => simp at hj
  | cons x l ih =>
    show (itc x ++ itcells l)[j * 3 + q]? = _
    cases j with
    | zero =>
      rw [List.getElem?_append_left (by rw [itc_length]; omega)]
      simp
    | succ j =>
      rw [List.getElem?_append_right (by rw [itc_length]; omega), itc_length, show (j + 1) * 3 + q - 3 = j * 3 + q by omega]
      exact ih j (by simpa using hj)
/-- v is a slice of the call's own that holds the items l -/
def OwnsI (w : World) (B : Nat) (v : Value) (l : List It) : Prop := w.ownsRow B 85 3 v l.length (itcells l)
/-- v is a slice that holds the items l -/
def LevAt (w : World) (v : Value) (l : List It) : Prop := ∃ a cap, v = .slice a l.length cap ∧ (l.length ≤ maxLen ∧ l.length ≤ cap) ∧ ∀ j (hj : j < l.length), ∃ g, a = some ⟨g, 0, none⟩ ∧ ∀ q u, (itc l[j])[q]? = some u → w.cell? ⟨g, j * 3 + q, none⟩ = some u
theorem LevAt.grown {w w' : World} {v : Value} {l : List It} (h : LevAt w v l) (hg : w.grownBy w' none) : LevAt w' v l := by
  obtain ⟨a, cap, h1, h2, h3⟩ := h
  refine ⟨a, cap, h1, h2, fun j hj => ?_⟩
  obtain ⟨g, h4, h5⟩ := h3 j hj
  exact ⟨g, h4, fun q u hu => hg.cell (h5 q u hu) (by simp)⟩
theorem OwnsI.lev {w : World} {B : Nat} {v : Value} {l : List It} (h : OwnsI w B v l) (hl : l.length ≤ maxLen) : LevAt w v l := by
  rcases h.2 with ⟨h1, h2⟩ | ⟨g, cap, cur, h1, h2, h3, h4, h5, h6, h7⟩
  · exact ⟨none, 0, by rw [h1, h2], ⟨hl, by omega⟩, fun j hj => by omega⟩
  · refine ⟨some ⟨g, 0, none⟩, cap, h1, ⟨hl, h4⟩, fun j hj => ⟨g, rfl, fun q u hu => ?_⟩⟩
    have hq : q < 3 := by have := (List.getElem?_eq_some_iff.1 hu).1; rwa [itc_length] at this
    rw [cell_of_row _ _ _ _ _ _ h3, ← Array.getElem?_toList]
    have h8 : (itcells l)[j * 3 + q]? = some u := by rw [itcells_get l j hj q hq, hu]
    rw [← h7] at h8
    rw [List.getElem?_take] at h8
    split at h8
    · exact h8
    · simp at h8
theorem infoItem : (Tryd.prog.info? 85).map (fun i => (i.zero, i.size, i.bytes)) = some (some (.agg #[.int .u64 0, .int .i64 0, .int .i64 0]), 3, 24) := by kernel_rfl

/-- 'out = append(out, item)' -/
theorem wpList_addI {ops : Array Oper} {rest : List Oper} {o : Oper} {a : Act} {w : World} {Q : Exit → Act → World → Prop} (hgd : o.guard = none) (s x : Operand)
    (ho : o.op = .call { callee := .builtin .append, args := #[s, x], argTypes := #[49, 49] })
    (B : Nat) (v : Value) (l : List It) (hs : a.eval s = v) (hown : OwnsI w B v l) (y : It) (c0 c1 c2 : Value) (hy : itc y = [c0, c1, c2])
    (hx : a.eval x = .slice (some ⟨w.heap.size, 0, none⟩) 1 1) (hl : l.length ≤ 100000) (hB : B ≤ w.heap.size)
    (h : ∀ g cap w1, OwnsI w1 B (.slice (some ⟨g, 0, none⟩) (l.length + 1) cap) (l ++ [y]) → w.grownBy w1 v.ownBlock → wpList Tryd.prog ops Q rest (a.put o.dst (.slice (some ⟨g, 0, none⟩) (l.length + 1) cap)) w1) :
    wpList Tryd.prog ops Q (o :: rest) a (w.alloc (.cells #[c0, c1, c2] 85)) := by
  obtain ⟨i, hi, hz0, hz1, hz2⟩ := info_parts infoItem
  refine wpList_append_lies (w.alloc (.cells #[c0, c1, c2] 85)) hgd s x _ ho B 85 i _ 3 24 Tryd.underlying49 hi hz0 hz1 hz2 rfl (by decide) v l.length (itcells l) hs (World.ownsRow.alloc hown _) ⟨w.heap.size, 0, none⟩ 1 1 [c0, c1, c2] hx rfl (World.news_of_block (heap_alloc_new w _)) ?_ (by decide) (by unfold maxLen; omega) (by omega) (by simp; omega) _ rfl ?_
  · intro u hu
    have : u ∈ itc y := by rw [hy]; exact hu
    cases y <;> (simp [itc] at this; rcases this with rfl | rfl | rfl <;> rfl)
  · intro g cap w1 ho1 hg1 _ _
    refine h g cap w1 ?_ (grown_trans (World.grownBy_alloc w _ _) hg1)
    unfold OwnsI
    rw [itcells_append, List.length_append]
    have e : itcells [y] = [c0, c1, c2] := by show itc y ++ [] = _; rw [hy]; rfl
    rw [e]
    exact ho1
theorem OwnsI.kept {w w' : World} {B : Nat} {v : Value} {l : List It} (h : OwnsI w B v l) (hg : w.grownBy w' none) : OwnsI w' B v l := by
  refine World.ownsRow.kept h hg ?_
  by_cases hv : v.ownBlock = none
  · exact .inl hv
  · exact .inr (fun e => hv e)
theorem OwnsI.below {w w1 : World} {v : Value} {B : Nat} {l : List It} (ho : OwnsI w B v l) (hg : w.grownBy w1 v.ownBlock) (hB : B ≤ w.heap.size) : Below B w w1 :=
  (Below.refl B w).grown hg hB (fun k hk => (World.ownsRow.lt ho k hk).1)
/-- v is a slice that holds the ints xs -/
def IntsAt (w : World) (v : Value) (xs : List Nat) : Prop := ∃ a cap, v = .slice a xs.length cap ∧ xs.length ≤ maxLen ∧ ∀ i (hi : i < xs.length), ∃ g, a = some ⟨g, 0, none⟩ ∧ w.cell? ⟨g, i, none⟩ = some (.int .i64 (xs[i] : Nat))
theorem IntsAt.of_owns {w : World} {B : Nat} {v : Value} {l : List Nat} (h : Owns w B 3 v (icells l)) (hl : l.length ≤ maxLen) : IntsAt w v l := by
  rcases h.shape with ⟨rfl, h2⟩ | ⟨g, cap, rfl, h2, h3, h4, h5⟩
  · have : l = [] := by simpa [icells] using h2
    subst this
    exact ⟨none, 0, rfl, Nat.zero_le _, fun i hi => by simp at hi⟩
  · refine ⟨some ⟨g, 0, none⟩, cap, by rw [icells_length], hl, fun i hi => ⟨g, rfl, ?_⟩⟩
    rw [h.cell i (by rw [icells_length]; exact hi)]
    simp [icells]
theorem IntsAt.grown {w w' : World} {v : Value} {l : List Nat} (h : IntsAt w v l) (hg : w.grownBy w' none) : IntsAt w' v l := by
  obtain ⟨a, cap, h1, h2, h3⟩ := h
  refine ⟨a, cap, h1, h2, fun j hj => ?_⟩
  obtain ⟨g, h4, h5⟩ := h3 j hj
  exact ⟨g, h4, hg.cell h5 (by simp)⟩

set_option maxRecDepth 100000 in
set_option maxHeartbeats 8000000 in
theorem next_any (vw vo vl : Value) (W order : List Nat) (l : List It) (Bd : Nat) (w : World) (hw : NumsAt w vw W) (ho : IntsAt w vo order) (hl : LevAt w vl l) (hord : ∀ o ∈ order, o < W.length) (hW : W.length ≤ 512) (hol : order.length ≤ 512) (hll : l.length ≤ 2048)
    (hWb : ∀ x ∈ W, x ≤ Bd) (hlb : ∀ x ∈ l, x.w ≤ Bd) (hBd : Bd ≤ 4611686018427387904) :
    Calls Tryd.prog 17 #[vw, vo, vl] w fun e w' => ∃ v', e = .returned v' ∧ LevAt w' v' (nxt (order.map (wt W)) l) ∧ Hid (w.grownBy w' none) := by
  obtain ⟨aw, cw, rfl, _, hcw⟩ := hw
  obtain ⟨ao, co, rfl, _, hco⟩ := ho
  obtain ⟨al, cl, rfl, _, hcl⟩ := hl
  obtain ⟨ws, hws⟩ : ∃ ws, ws = order.map (wt W) := ⟨_, rfl⟩
  have Hwsl : Hid (ws.length = order.length) := by show _ = _; rw [hws]; simp
  have HF : Hid (nxt ws l = mrg (ws.drop 0) 0 (pks (l.drop 0) 0)) := rfl
  have Hlen : Hid ((nxt ws l).length ≤ 100000) := by
    show (mrg ws 0 (pks l 0)).length ≤ _
    rw [mrg_length, pks_length]; have := Hwsl.out; omega
  -- the k-th leaf: its symbol, its weight
  have Hleaf : Hid (∀ V : World, w.grownBy V none → ∀ k, k < order.length → ∃ (g o u : Nat) (x : Addr), ao = some ⟨g, 0, none⟩ ∧ aw = some x ∧ V.cell? ⟨g, k, none⟩ = some (.int .i64 (o : Nat)) ∧ o < W.length ∧ V.cell? (x.add o) = some (.int .u64 (u : Nat)) ∧ u ≤ Bd ∧ ws.drop k = u :: ws.drop (k + 1)) := fun V hV k hk => by
    obtain ⟨g, h1, h2⟩ := hco k hk
    have ho := hord order[k] (List.getElem_mem hk)
    obtain ⟨x, h3, h4⟩ := hcw order[k] ho
    refine ⟨g, order[k], W[order[k]], x, h1, h3, hV.cell h2 (by simp), ho, hV.cell h4 (by simp), hWb _ (List.getElem_mem ho), ?_⟩
    have hk2 : k < ws.length := by have := Hwsl.out; omega
    rw [List.drop_eq_getElem_cons hk2]
    congr 1
    subst hws
    rw [List.getElem_map]
    unfold wt
    simp [List.getD, ho]
  -- two items of the level
  have Hitem : Hid (∀ V : World, w.grownBy V none → ∀ i, i + 1 < l.length → ∃ (g x y : Nat), al = some ⟨g, 0, none⟩ ∧ V.cell? ⟨g, i * 3, none⟩ = some (.int .u64 (x : Nat)) ∧ V.cell? ⟨g, (i + 1) * 3, none⟩ = some (.int .u64 (y : Nat)) ∧ x ≤ Bd ∧ y ≤ Bd ∧ pks (l.drop i) i = (x + y, i) :: pks (l.drop (i + 2)) (i + 2)) := fun V hV i hi => by
    obtain ⟨g, h1, h2⟩ := hcl i (by omega)
    obtain ⟨g', h1', h2'⟩ := hcl (i + 1) hi
    rw [h1] at h1'
    injection h1' with h1'
    injection h1' with h1'
    subst h1'
    have e0 : ∀ z : It, (itc z)[0]? = some (.int .u64 (z.w : Nat)) := fun z => by cases z <;> rfl
    refine ⟨g, l[i].w, l[i + 1].w, h1, hV.cell (h2 0 _ (e0 _)) (by simp), hV.cell (h2' 0 _ (e0 _)) (by simp), hlb _ (List.getElem_mem _), hlb _ (List.getElem_mem _), ?_⟩
    rw [List.drop_eq_getElem_cons (by omega : i < l.length), List.drop_eq_getElem_cons hi, pks_cons]
  have Hpnil : Hid (∀ i, l.length ≤ i + 1 → pks (l.drop i) i = []) := fun i hi => by
    have : (pks (l.drop i) i).length = 0 := by rw [pks_length, List.length_drop]; omega
    exact List.length_eq_zero_iff.1 this
  obtain ⟨F, hF⟩ : ∃ F, F = nxt ws l := ⟨_, rfl⟩
  rw [← hws, ← hF]
  rw [← hF] at HF Hlen
  obtain ⟨n, hn⟩ : ∃ n, n = order.length := ⟨_, rfl⟩
  rw [← hn] at Hleaf Hwsl hol ⊢
  obtain ⟨m, hm⟩ : ∃ m, m = l.length := ⟨_, rfl⟩
  rw [← hm] at Hitem Hpnil hll ⊢
  have HBd := Lib.hid hBd
  obtain ⟨i0, hi0, hz0, hz1, hz2⟩ := info_parts infoItem
  have hm2 : ((m : Int)) / 2 = ((m / 2 : Nat) : Int) := by omega
  obtain ⟨h2, hh2⟩ : ∃ h2, h2 = m / 2 := ⟨_, rfl⟩
  rw [← hh2] at hm2
  have hh2b : h2 ≤ 1024 := by omega
  clear hcw hco hcl hord hWb hlb hws hF hn hm hh2 hW
  go_enter Tryd.func17, Tryd.ntmps17
  go_wp2_with (first
    | (at_make; refine wpList_make_own w rfl _ _ 49 rfl w.heap.size 85 i0 _ 3 Tryd.underlying49 hi0 hz0 hz1 .i64 .i64 _ (n + h2) rfl rfl (by omega) (by rw [hz2]; omega) (by unfold maxLen; omega) (Nat.le_refl _) ?_; intro w1 hown1 hgrow1))
  obtain ⟨b0, hb0⟩ : ∃ b0, b0 = w.heap.size := ⟨_, rfl⟩
  rw [← hb0] at hown1 ⊢
  have Hb0 := Lib.hid hb0
  have HO1 : Hid (OwnsI w1 b0 (.slice (some ⟨b0, 0, none⟩) 0 (n + h2)) []) := hown1
  have HG1 := Lib.hid hgrow1
  clear hown1 hgrow1 hb0 hi0 hz0 hz1 hz2
  go_loopw [7, 8, 9] (fun ov kv iv wr => ∃ (k i : Nat) (D : List It), kv = .int .i64 (k : Nat) ∧ iv = .int .i64 (i : Nat) ∧ k ≤ n ∧ i ≤ m + 1 ∧ Hid (OwnsI wr b0 ov D) ∧ Hid (D ++ mrg (ws.drop k) k (pks (l.drop i) i) = F) ∧ Hid (w.grownBy wr none)) (fun _ _ iv _ => m + 1 - (intOf iv).toNat)
  case atStart => exact ⟨0, 0, [], rfl, rfl, Nat.zero_le _, Nat.zero_le _, HO1, HF.out.symm, HG1⟩
  case round =>
    clear HO1 HG1
    obtain ⟨k, i, D, rfl, rfl, hk, hi, ho, hF, hg⟩ := hrel
    by_cases hlt : i + 1 < m
    · obtain ⟨g0, x, y, rfl, c1, c2, hx, hy, hp⟩ := Hitem.out wr hg.out i hlt
      rw [hp] at hF
      have hBd := HBd.out
      obtain ⟨sm, hsm⟩ : ∃ sm, sm = x + y := ⟨_, rfl⟩
      rw [← hsm] at hF
      have hw1 : IntKind.u64.wrap ((x : Int) + (y : Int)) = (sm : Int) := by rw [wrap64u_in _ (by omega) (by omega)]; omega
      have hi1 : (i : Int) + 1 < (m : Int) := by omega
      clear hp hx hy hBd hsm
      go_wp2_with fail
      go_quiet (fail)
      go_wp2_with fail
      clear c1 c2 hw1
      obtain ⟨wo, hwo⟩ : ∃ wo : World, wo = wr.drewN nq := ⟨_, rfl⟩
      have ho1 : Hid (OwnsI wo b0 u7 D) := by rw [hwo]; exact ho.out.kept (grown_drewN wr nq none)
      have hg1 : Hid (w.grownBy wo none) := by rw [hwo]; exact grown_trans hg.out (grown_drewN wr nq none)
      rw [← hwo]
      clear hwo ho hg
      go_loopw [7, 8] (fun ov kv wr => ∃ (k : Nat) (D : List It), kv = .int .i64 (k : Nat) ∧ k ≤ n ∧ Hid (OwnsI wr b0 ov D) ∧ Hid (D ++ mrg (ws.drop k) k ((sm, i) :: pks (l.drop (i + 2)) (i + 2)) = F) ∧ Hid (w.grownBy wr none)) (fun _ kv _ => n - (intOf kv).toNat)
      case atStart => exact ⟨k, D, rfl, hk, ho1, hF, hg1⟩
      case round =>
        clear ho1 hg1 hF hk
        obtain ⟨k, D, rfl, hk, ho, hF, hg⟩ := hrel
        have HDl : Hid (D.length ≤ 100000) := by
          have h1 := congrArg List.length hF.out
          have h2 := Hlen.out
          rw [List.length_append] at h1
          show _ ≤ _; omega
        have HBw : Hid (b0 ≤ wr.heap.size) := by have := hg.out.size; have := Hb0.out; show _ ≤ _; omega
        by_cases hkn : k < n
        · obtain ⟨g1, o, u, xa, rfl, rfl, c1, ho2, c2, huB, hd⟩ := Hleaf.out wr hg.out k hkn
          have hoi : (o : Int) < (W.length : Int) := by omega
          rw [hd] at hF
          by_cases hus : u ≤ sm
          · have HE : Hid (D ++ [It.leaf u k] ++ mrg (ws.drop (k + 1)) (k + 1) ((sm, i) :: pks (l.drop (i + 2)) (i + 2)) = F) := by
              show _ = _
              rw [← hF.out, mrg_leaf hus]; simp
            have hus' : (u : Int) ≤ (sm : Int) := by omega
            clear hd hF hus
            go_wp2_with (first
              | (at_builtin; refine wpList_addI rfl (.tmp 52) (.tmp 62) rfl b0 _ D rfl ho.out (.leaf u k) _ _ _ rfl rfl HDl.out HBw.out ?_; intro g2 cap2 w3 ho3 hg3; have HO3 := Lib.hid ho3; have HG3 := Lib.hid hg3; clear ho3 hg3))
            exact ⟨⟨k + 1, D ++ [It.leaf u k], by rw [Int.natCast_add]; rfl, by omega, HO3.out, HE.out, grown_bel ((bel_grown hg.out (Nat.le_refl _)).trans ((ho.out.below HG3.out HBw.out).mono (by have := Hb0.out; omega))) none⟩, by simp [intOf]; omega⟩
          · have HE : Hid (D ++ [It.pack sm i] ++ mrg (ws.drop k) k (pks (l.drop (i + 2)) (i + 2)) = F) := by
              show _ = _
              rw [← hF.out, mrg_pack hus, hd]; simp
            have hus' : (sm : Int) < (u : Int) := by omega
            clear hd hF hus
            go_wp2_with (first
              | (at_builtin; refine wpList_addI rfl (.tmp 66) (.tmp 70) rfl b0 _ D rfl ho.out (.pack sm i) _ _ _ rfl rfl HDl.out HBw.out ?_; intro g2 cap2 w3 ho3 hg3; have HO3 := Lib.hid ho3; have HG3 := Lib.hid hg3; clear ho3 hg3))
            exact ⟨⟨k, i + 2, D ++ [It.pack sm i], rfl, by rw [Int.natCast_add]; rfl, hk, by omega, HO3.out, HE.out, grown_bel ((bel_grown hg.out (Nat.le_refl _)).trans ((ho.out.below HG3.out HBw.out).mono (by have := Hb0.out; omega))) none⟩, by simp [intOf]; omega⟩
        · have hd : ws.drop k = [] := List.drop_of_length_le (by have := Hwsl.out; omega)
          have HE : Hid (D ++ [It.pack sm i] ++ mrg (ws.drop k) k (pks (l.drop (i + 2)) (i + 2)) = F) := by
            show _ = _
            rw [← hF.out, hd, mrg_pack']; simp
          clear hd hF
          go_wp2_with (first
            | (at_builtin; refine wpList_addI rfl (.tmp 66) (.tmp 70) rfl b0 _ D rfl ho.out (.pack sm i) _ _ _ rfl rfl HDl.out HBw.out ?_; intro g2 cap2 w3 ho3 hg3; have HO3 := Lib.hid ho3; have HG3 := Lib.hid hg3; clear ho3 hg3))
          exact ⟨⟨k, i + 2, D ++ [It.pack sm i], rfl, by rw [Int.natCast_add]; rfl, hk, by omega, HO3.out, HE.out, grown_bel ((bel_grown hg.out (Nat.le_refl _)).trans ((ho.out.below HG3.out HBw.out).mono (by have := Hb0.out; omega))) none⟩, by simp [intOf]; omega⟩
    · have hpn := Hpnil.out i (by omega)
      rw [hpn, mrg_none] at hF
      have hi1 : (m : Int) ≤ (i : Int) + 1 := by omega
      clear hpn
      go_wp2_with fail
      obtain ⟨wo, hwo⟩ : ∃ wo : World, wo = wr := ⟨_, rfl⟩
      subst hwo
      go_loopw [7, 8] (fun ov kv wr => ∃ (k : Nat) (D : List It), kv = .int .i64 (k : Nat) ∧ k ≤ n ∧ Hid (OwnsI wr b0 ov D) ∧ Hid (D ++ lv (ws.drop k) k = F) ∧ Hid (w.grownBy wr none)) (fun _ kv _ => n - (intOf kv).toNat)
      case atStart => exact ⟨k, D, rfl, hk, ho, hF, hg⟩
      case round =>
        clear ho hF hg hk
        obtain ⟨k, D, rfl, hk, ho, hF, hg⟩ := hrel
        have HDl : Hid (D.length ≤ 100000) := by
          have h1 := congrArg List.length hF.out
          have h2 := Hlen.out
          rw [List.length_append] at h1
          show _ ≤ _; omega
        have HBw : Hid (b0 ≤ wr.heap.size) := by have := hg.out.size; have := Hb0.out; show _ ≤ _; omega
        by_cases hkn : k < n
        · obtain ⟨g1, o, u, xa, rfl, rfl, c1, ho2, c2, huB, hd⟩ := Hleaf.out wr hg.out k hkn
          have hoi : (o : Int) < (W.length : Int) := by omega
          have HE : Hid (D ++ [It.leaf u k] ++ lv (ws.drop (k + 1)) (k + 1) = F) := by
            show _ = _
            rw [← hF.out, hd, lv]; simp
          clear hd hF
          go_wp2_with (first
            | (at_builtin; refine wpList_addI rfl (.tmp 78) (.tmp 88) rfl b0 _ D rfl ho.out (.leaf u k) _ _ _ rfl rfl HDl.out HBw.out ?_; intro g2 cap2 w3 ho3 hg3; have HO3 := Lib.hid ho3; have HG3 := Lib.hid hg3; clear ho3 hg3))
          exact ⟨⟨k + 1, D ++ [It.leaf u k], by rw [Int.natCast_add]; rfl, by omega, HO3.out, HE.out, grown_bel ((bel_grown hg.out (Nat.le_refl _)).trans ((ho.out.below HG3.out HBw.out).mono (by have := Hb0.out; omega))) none⟩, by simp [intOf]; omega⟩
        · have hd : ws.drop k = [] := List.drop_of_length_le (by have := Hwsl.out; omega)
          rw [hd] at hF
          have hDF : D = F := by have := hF.out; simpa [lv] using this
          subst hDF
          clear hd hF
          go_wp2_with fail
          go_ret
          exact ⟨_, rfl, ho.out.lev (by have := Hlen.out; unfold maxLen; omega), hg⟩
end Go.Proofs.YtidmmcgnghdfdaaDoor
