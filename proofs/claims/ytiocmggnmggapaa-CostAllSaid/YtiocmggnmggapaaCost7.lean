/- Files of files: merged. -/
import Derived.Test.YtiocmggnmggapaaCost6
import Derived.Maps.OwnIn
import Derived.Deep.Onto
namespace Go.Proofs.Ytiocmggnmggapaa
open Go.RowKit Go.Shelf CostPlain
set_option linter.unusedVariables false
attribute [local go_sem] Oper.semAt_some

/-- 'out = append(out, y)' inside a fence: y's own block is the last one -/
theorem wpListIn_add1 {F : Fence} {nF : Nat} {P : Program} {ops : Array Oper} {rest : List Oper} {o : Oper} {a : Act} {w : World} {Q : Exit → Act → World → Prop} (hgd : o.guard = none) (s x : Operand) (t : TypeId)
    (ho : o.op = .call { callee := .builtin .append, args := #[s, x], argTypes := #[t, t] })
    (B : Nat) (e : TypeId) (z : Value) (bytes : Nat) (E : ElemOf P t e z bytes) (v : Value) (xs : List Value) (hs : a.eval s = v) (hown : Owns w B e v xs)
    (y : Value) (hx : a.eval x = .slice (some ⟨w.heap.size, 0, none⟩) 1 1) (h1 : y.oneCell' = true) (hbytes : (xs.length + 1) * bytes ≤ 140737488355328) (h63 : xs.length + 1 ≤ maxLen) (hB : B ≤ w.heap.size)
    (h : ∀ g cap w1, Owns w1 B e (.slice (some ⟨g, 0, none⟩) (xs.length + 1) cap) (xs ++ [y]) → Grew w v w1 (.slice (some ⟨g, 0, none⟩) (xs.length + 1) cap) → wpListIn F nF P ops Q rest (a.put o.dst (.slice (some ⟨g, 0, none⟩) (xs.length + 1) cap)) w1) :
    wpListIn F nF P ops Q (o :: rest) a (w.alloc (.cells #[y] e)) := by
  refine wpListIn_plain hgd fun K hK => ?_
  obtain ⟨v', w1, hr, h2, h3⟩ := run_pushes (P := P) t o.type B e z bytes E v xs (World.ownsRow.alloc hown _) _ [y] (Src.one (heap_alloc_new w (.cells #[y] e)) (c := 1)) (by simpa using h1) (by simpa using hbytes) (by simpa using h63) (by simp; omega)
  rcases h2.shape with ⟨_, h4⟩ | ⟨g, cap, rfl, _⟩
  · simp at h4
  rw [show (xs ++ [y]).length = xs.length + 1 by simp] at h2 h3 hr
  unfold Oper.wpIn
  refine ⟨by simp [Oper.about, ho, resolve, Target.leads, Sem.run_pure], ?_⟩
  rw [Oper.semAt_plain F _ _ (by rw [ho]; intro c hc'; cases hc')]
  try simp only [List.length_singleton] at hr
  simp [execOp, ho, resolve, invoke, builtin, hs, hx, hr, Result.andThen]
  exact hK _ _ (h g cap w1 h2 ((Grew.of_none v (World.grownBy_alloc w _ none)).trans h3))

theorem row_own {W W' : World} {b : Nat} {o : Obj} {row : Option Nat} (h : W.heap[b]? = some o) (ho : o.isCells = true) (hg : W.grownBy W' row) (hr : ∀ r, row = some r → ∃ o : Obj, W.heap[r]? = some o ∧ o.isCells = false) : W'.heap[b]? = some o :=
  (grownBy_keeps_cells hg hr h ho).trans h
/-- the k-th file's records -/
def chs (l : List Nat) (fan k : Nat) : Nat := ((l.drop (k * fan)).take fan).sum
def mrgL (fan : Nat) (l : List Nat) : List Nat := (List.range ((l.length + fan - 1) / fan)).map (chs l fan)
theorem Owns.abide {w w' : World} {B : Nat} {e : TypeId} {v : Value} {xs : List Value} (h : Owns w B e v xs) {r : Option Nat} (hg : w.grownBy w' r) (hr : ∀ k, r = some k → ∃ o : Obj, w.heap[k]? = some o ∧ o.isCells = false) : Owns w' B e v xs := by
  rcases h.shape with ⟨rfl, h2⟩ | ⟨g, cap, rfl, _⟩
  · exact h.kept_of hg (.inr rfl)
  · refine h.kept_of hg (.inl (fun e1 => ?_))
    obtain ⟨o, h3, h4⟩ := hr g e1.symm
    rcases h.2 with ⟨h5, _⟩ | ⟨g', cap', cur, h5, _, h6, _⟩
    · cases h5
    · injection h5 with h5
      injection h5 with h5
      injection h5 with h5
      subst h5
      rw [h3] at h6
      injection h6 with h6
      subst h6
      cases h4
theorem _root_.List.take_eq_take_min_length_drop (l : List Nat) (p f n : Nat) (hn : n = l.length) : (l.drop p).take (min f (n - p)) = (l.drop p).take f := by
  subst hn
  rcases Nat.le_total f (l.length - p) with h | h
  · rw [Nat.min_eq_left h]
  · rw [Nat.min_eq_right h, List.take_of_length_le (by rw [List.length_drop]; exact Nat.le_refl _), List.take_of_length_le (by rw [List.length_drop]; exact h)]
theorem Owns.cells_row {w : World} {B : Nat} {e : TypeId} {v : Value} {xs : List Value} (h : Owns w B e v xs) {q : Nat} {o : Obj} (hq : v.ownBlock = some q) (ho : w.heap[q]? = some o) : o.isCells = true := by
  rcases h.2 with ⟨h5, _⟩ | ⟨g', cap', cur, h5, _, h6, _⟩
  · rw [h5] at hq; cases hq
  · rw [h5] at hq
    injection hq with hq
    simp only at hq
    subst hq
    rw [ho] at h6
    injection h6 with h6
    subst h6
    rfl
structure MgI (w : World) (l : List Nat) (fan G k : Nat) (W : World) : Prop where
  box : ∃ v, W.heap[G]? = some (.cells #[v] 34 (0, 0)) ∧ Owns W (G + 3) 22 v (ncells ((List.range k).map (chs l fan)))
  gr : w.grownBy W none
  sz : G + 3 ≤ W.heap.size
theorem sum_take_drop_le (l : List Nat) (p q : Nat) : ((l.drop p).take q).sum ≤ l.sum := by
  have h1 : (l.take p).sum + (l.drop p).sum = l.sum := by rw [← List.sum_append, List.take_append_drop]
  have h2 : ((l.drop p).take q).sum + ((l.drop p).drop q).sum = (l.drop p).sum := by rw [← List.sum_append, List.take_append_drop]
  omega

set_option maxRecDepth 100000 in
set_option maxHeartbeats 16000000 in
theorem merged_any (g cap fan : Nat) (l : List Nat) (w : World) (hc : ∀ i (hi : i < l.length), w.cell? ⟨g, i, none⟩ = some (.int .u64 (l[i] : Nat))) (hcap : l.length ≤ cap) (hl : l.length ≤ 65536) (hl0 : 0 < l.length) (hf : 1 ≤ fan) (hf2 : fan ≤ 1000) (hs : l.sum ≤ 65536) :
    Calls Try.prog 29 #[.slice (some ⟨g, 0, none⟩) l.length cap, .int .i64 (fan : Nat)] w fun e w' => ∃ v, e = .returned v ∧ Owns w' w.heap.size 22 v (ncells (mrgL fan l)) ∧ Hid (w.grownBy w' none) := by
  have hgl : g < w.heap.size := by
    have h := hc 0 hl0
    rcases Nat.lt_or_ge g w.heap.size with h1 | h1
    · exact h1
    · simp [World.cell?, Array.getElem?_eq_none h1] at h
  have Hc := Lib.hid hc
  have Hs := Lib.hid hs
  obtain ⟨n, hn⟩ : ∃ n, n = l.length := ⟨_, rfl⟩
  have HR : Hid (mrgL fan l = (List.range ((n + fan - 1) / fan)).map (chs l fan)) := by show _ = _; rw [hn]; rfl
  obtain ⟨R, hRe⟩ : ∃ R, R = mrgL fan l := ⟨_, rfl⟩
  rw [← hRe] at HR ⊢
  rw [← hn] at hcap hl hl0 ⊢
  have Hn := Lib.hid hn
  clear hc hs hn hRe
  refine (callsIn_wide (n := 4)).1 ?_
  refine callsIn_of_wp_marks Try.func29 rfl trivial ?_ rfl
  simp only [Try.ntmps29, List.size_toArray, List.length_cons, List.length_nil, Nat.reduceAdd, Nat.reduceSub, Array.replicate_succ, Array.replicate_zero, List.push_toArray, List.append_toArray, List.nil_append, List.cons_append]
  have hf' : 1 ≤ (fan : Int) := by omega
  gi_wp2_with fail
  refine ⟨trivial, (chunk_in _ _ trivial rfl _ _ _ fan hf hf2 _).mono ?_⟩
  rintro e w' ⟨rfl, rfl⟩
  simp only []
  gi_wp2
  simp only [World.size_alloc]
  have q0 := heap_alloc_new w (.cells #[.slice none 0 0] 34)
  have q1 := heap_alloc_new (w.alloc (.cells #[.slice none 0 0] 34)) (.cells #[.slice (some ⟨g, 0, none⟩) n cap] 34)
  have q2 := heap_alloc_new ((w.alloc (.cells #[.slice none 0 0] 34)).alloc (.cells #[.slice (some ⟨g, 0, none⟩) n cap] 34)) (.cells #[.int .i64 (fan : Nat)] 3)
  simp only [World.size_alloc] at q1 q2
  have g0 := World.grownBy_alloc w (.cells #[.slice none 0 0] 34) none
  have g1 := World.grownBy_alloc (w.alloc (.cells #[.slice none 0 0] 34)) (.cells #[.slice (some ⟨g, 0, none⟩) n cap] 34) none
  have g2 := World.grownBy_alloc ((w.alloc (.cells #[.slice none 0 0] 34)).alloc (.cells #[.slice (some ⟨g, 0, none⟩) n cap] 34)) (.cells #[.int .i64 (fan : Nat)] 3) none
  have hsz : (((w.alloc (.cells #[.slice none 0 0] 34)).alloc (.cells #[.slice (some ⟨g, 0, none⟩) n cap] 34)).alloc (.cells #[.int .i64 (fan : Nat)] 3)).heap.size = w.heap.size + 3 := by simp only [World.size_alloc]
  have p1 := row_kept q1 g2 (by simp)
  have p0 := row_kept (row_kept q0 g1 (by simp)) g2 (by simp)
  have hg3 := grown_trans g0 (grown_trans g1 g2)
  generalize (((w.alloc (.cells #[.slice none 0 0] 34)).alloc (.cells #[.slice (some ⟨g, 0, none⟩) n cap] 34)).alloc (.cells #[.int .i64 (fan : Nat)] 3)) = W0 at *
  clear q0 q1 g0 g1 g2
  obtain ⟨G, hG⟩ : ∃ G, G = w.heap.size := ⟨_, rfl⟩
  rw [← hG] at p0 p1 q2 hsz hgl ⊢
  have HG := Lib.hid hG
  clear hG
  have hI0 : MgI w l fan G 0 W0 := ⟨⟨_, p0, Owns.nil _ _ _⟩, hg3, by omega⟩
  have Hk : Hid (∀ k, k < (n + fan - 1) / fan → k * fan < n) := fun k hk => by
    have h1 : (k + 1) * fan ≤ n + fan - 1 := Nat.le_trans (Nat.mul_le_mul_right fan hk) (Nat.div_mul_le_self _ _)
    rw [Nat.succ_mul] at h1; omega
  have Hk2 : Hid (∀ k, k * fan < n → k < (n + fan - 1) / fan) := fun k hk => by
    rw [Nat.lt_iff_add_one_le, Nat.le_div_iff_mul_le (by omega), Nat.succ_mul]; omega
  refine rangeFunc_nth (P := Try.prog) rfl (by omega) (gf := 45) (lb := #[.pointer (some ⟨G + 1, 0, none⟩), .pointer (some ⟨G + 1 + 1, 0, none⟩)]) rfl trivial (enters_of Try.func45 (by kernel_rfl) rfl)
    (fun k => #[.slice (some ⟨g, k * fan, none⟩) (min fan (n - k * fan)) (min fan (n - k * fan))]) ((n + fan - 1) / fan) (fun q => q = G + 1 ∨ q = G + 1 + 1) (fun q hq => by show q < W0.heap.size; rcases hq with rfl | rfl <;> omega) (fun _ => rfl)
    (fun lp J W hW hD hY h0 => chunk1_in Fence.wide 3 trivial rfl (by omega) lp (G + 1) (G + 1 + 1) g n cap fan (fun q => q = G + 1 ∨ q = G + 1 + 1) hl hcap hf hf2 (.inl rfl) (.inr rfl) J hD (fun k W1 hJ hk => hY k W1 hJ (Hk2.out k hk)) W ((grown_bel hW none).cell (row_cell p1 0 _ rfl) (by simp)) ((grown_bel hW none).cell (row_cell q2 0 _ rfl) (by simp)) h0)
    (MgI w l fan G)
    (fun k A B row h hg hr => ⟨by obtain ⟨v, h1, h2⟩ := h.box; exact ⟨v, row_own h1 rfl hg (fun r e => (hr r e).2), h2.abide hg (fun r e => (hr r e).2)⟩, grown_bel ((bel_grown h.gr (Nat.le_refl _)).grown hg h.gr.size (fun q e => by have := (hr q e).1; have := HG.out; omega)) none, Nat.le_trans h.sz hg.size⟩)
    hI0
    (fun k => { tmps := #[Value.slice (some { block := g, off := 0 }) n cap, Value.int IntKind.i64 (fan : Nat), undef, undef, Value.slice none 0 0, Value.pointer (some { block := G, off := 0 }), .slice (some ⟨g, k * fan, none⟩) (min fan (n - k * fan)) (min fan (n - k * fan)), undef, undef, undef, Value.slice (some { block := g, off := 0 }) n cap, Value.int IntKind.i64 (fan : Nat), Value.func (Fn.func 45) #[] #[.pointer (some ⟨G + 1, 0, none⟩), .pointer (some ⟨G + 1 + 1, 0, none⟩)], .slice (some ⟨g, k * fan, none⟩) (min fan (n - k * fan)) (min fan (n - k * fan)), undef, undef, undef, undef, undef, undef, undef, undef, undef, undef, undef, undef, undef, undef, undef], defers := [] }) ?assign ?body ?done
  case assign =>
    intro lp k W K hK
    gi_wp2
    exact hK
  case body =>
    rintro lp k W hI hk
    have hkp := Hk.out k hk
    obtain ⟨v, h1, h2⟩ := hI.box
    have hg := hI.gr
    have hC : Hid (chs l fan k = ((l.drop (k * fan)).take (min fan (n - k * fan))).sum) := by
      show _ = _
      unfold chs
      congr 1
      rw [← List.take_eq_take_min_length_drop l (k * fan) fan n Hn.out]
    obtain ⟨p, hp⟩ : ∃ p, p = k * fan := ⟨_, rfl⟩
    rw [← hp] at hkp hC ⊢
    obtain ⟨c, hc⟩ : ∃ c, c = min fan (n - p) := ⟨_, rfl⟩
    rw [← hc] at hC ⊢
    have hcn : p + c ≤ n ∧ c ≤ 1000 := by omega
    obtain ⟨hcn1, hcn2⟩ := hcn
    have hkn : k ≤ 65536 := by
      have : k * 1 ≤ k * fan := Nat.mul_le_mul_left k hf
      omega
    have Hcell : Hid (∀ i, i < c → ∃ x : Nat, W.cell? ⟨g, p + i, none⟩ = some (.int .u64 (x : Nat)) ∧ ((l.drop p).take (i + 1)).sum = ((l.drop p).take i).sum + x) := fun i hi => by
      have hil : p + i < l.length := by rw [← Hn.out]; omega
      refine ⟨l[p + i], hg.cell (Hc.out (p + i) hil) (by simp), ?_⟩
      rw [List.take_succ_eq_append_getElem (by rw [List.length_drop]; omega), List.sum_append, List.getElem_drop]
      simp
    have Hsb : Hid (∀ i, ((l.drop p).take i).sum ≤ 65536) := fun i => Nat.le_trans (sum_take_drop_le l p i) Hs.out
    have H1 := Lib.hid h1
    have H2 := Lib.hid h2
    have Hg := Lib.hid hg
    have c1 := row_cell h1 0 _ rfl
    have c2 := row_free h1 0
    have Hl1 : Hid (((ncells ((List.range k).map (chs l fan))).length + 1) * 8 ≤ 140737488355328) := by show _ ≤ _; rw [ncells_length, List.length_map, List.length_range]; omega
    have Hl2 : Hid ((ncells ((List.range k).map (chs l fan))).length + 1 ≤ maxLen) := by show _ ≤ _; rw [ncells_length, List.length_map, List.length_range]; unfold maxLen; omega
    have HBw : Hid (G + 3 ≤ W.heap.size) := hI.sz
    clear hI h1 h2 hg hp hc p0 p1 q2 hI0
    gi_wp2
    gi_loopw [7, 16] (fun sv iv wr => ∃ i : Nat, iv = .int .i64 (i : Nat) ∧ i ≤ c ∧ sv = .int .u64 (((l.drop p).take i).sum : Nat) ∧ wr = W) (fun _ iv _ => c - (intOf iv).toNat)
    case atStart => exact ⟨0, rfl, Nat.zero_le _, by simp, rfl⟩
    case round =>
      obtain ⟨i, rfl, hi, rfl, hwr⟩ := hrel
      obtain rfl : W = wr := hwr.symm
      have hsb := Hsb.out i
      by_cases hlt : i < c
      · obtain ⟨x, cx, hx⟩ := Hcell.out i hlt
        have hsb2 := Hsb.out (i + 1)
        have HX := Lib.hid hx
        obtain ⟨s, hse⟩ : ∃ s, s = ((l.drop p).take i).sum := ⟨_, rfl⟩
        rw [hx, ← hse] at hsb2
        rw [← hse] at HX hsb ⊢
        have hii : (i : Int) < (c : Int) := by omega
        have hw1 : IntKind.u64.wrap ((s : Int) + (x : Int)) = ((s + x : Nat) : Int) := by rw [wrap64u_in _ (by omega) (by omega)]; rfl
        clear hx hse
        gi_wp2
        go_roundw
        case rel => exact ⟨i + 1, by rw [Int.natCast_add]; rfl, by omega, by rw [HX.out]; first | rfl | rw [Int.natCast_add], by first | rfl | trivial⟩
        case measure => simp [intOf] <;> omega
      · obtain rfl : i = c := by omega
        rw [← hC.out] at hsb ⊢
        obtain ⟨s, hse⟩ : ∃ s, s = chs l fan k := ⟨_, rfl⟩
        rw [← hse] at hsb ⊢
        have Hse := Lib.hid hse
        clear hse
        gi_wp2_with (first
          | (gi_at_builtin; refine wpListIn_add1 rfl (.tmp 24) (.tmp 26) 34 rfl (G + 3) 22 (.int .u64 0) 8 elemNums _ (ncells ((List.range k).map (chs l fan))) rfl H2.out (.int .u64 (s : Nat)) rfl rfl Hl1.out Hl2.out HBw.out ?_; intro g2 cap2 w6 ho6 hg6; have HO6 := Lib.hid ho6; have HG6 := Lib.hid hg6; have r6 := row_kept H1.out hg6.grown (fun e => by have := (H2.out.block_lt _ e).1; omega); have c6 := row_cell r6 0 _ rfl; have c7 := row_free r6 0; have R6 := Lib.hid r6; clear ho6 hg6 r6)
          | fail)
        have hG1 := HG.out
        refine ⟨(KeepsOthers.of_grownBy HG6.out.grown (fun q o e ho => H2.out.cells_row e ho)).trans (KeepsOthers.setCell _ _ _), (SameOn.grown HG6.out.grown (fun q hq e => by have := (H2.out.block_lt _ e).1; rcases hq with rfl | rfl <;> omega)).trans (SameOn.grown (grown_setCell w6 ⟨G, 0, none⟩ _) (fun q hq e => by injection e with e; simp only at e; rcases hq with rfl | rfl <;> omega)), ⟨_, by rw [heap_setCell_same w6 G 0 _ _ _ R6.out]; rfl, ?_⟩, ?_, ?_⟩
        · have h3 := HO6.out.kept (grown_setCell w6 ⟨G, 0, none⟩ (Value.slice (some { block := g2, off := 0 }) ((ncells (List.map (chs l fan) (List.range k))).length + 1) cap2)) (fun q e => by injection e with e; simp only at e; omega)
          rw [List.range_succ, List.map_append, ncells_append, List.map_cons, List.map_nil, ← Hse.out]
          exact h3
        · exact grown_bel (((bel_grown Hg.out (Nat.le_refl _)).grown HG6.out.grown Hg.out.size (fun q e => by have := (H2.out.block_lt _ e).1; omega)).grown (grown_setCell w6 ⟨G, 0, none⟩ _) (Nat.le_trans Hg.out.size HG6.out.grown.size) (fun q e => by injection e with e; simp only at e; omega)) none
        · exact Nat.le_trans HBw.out (Nat.le_trans HG6.out.grown.size (grown_setCell w6 ⟨G, 0, none⟩ _).size)
  case done =>
    rintro D W hD hI hK
    obtain ⟨v, h1, h2⟩ := hI.box
    have hg := hI.gr
    have c1 := row_cell h1 0 _ rfl
    have H1 := Lib.hid h1
    have H2 := Lib.hid h2
    have Hg := Lib.hid hg
    clear hI h1 h2 hg
    gi_wp2
    refine ⟨by simp, .inl ⟨_, _, rfl, run_takeDeferred hK, ?_⟩⟩
    refine ⟨_, results_tmp rfl _ _ _, _, rfl, ?_, ?_⟩
    · rw [HR.out]
      have h3 := H2.out.abide (grownBy_putObj' W D (.deferred none)) (fun k e => by cases e; exact ⟨_, hK, rfl⟩)
      exact World.ownsRow.mono h3 (by have := HG.out; omega)
    · exact grown_bel ((bel_grown Hg.out (Nat.le_refl _)).grown (grownBy_putObj' W D (.deferred none)) Hg.out.size (fun q e => by injection e with e; have := HG.out; omega)) none
end Go.Proofs.Ytiocmggnmggapaa
