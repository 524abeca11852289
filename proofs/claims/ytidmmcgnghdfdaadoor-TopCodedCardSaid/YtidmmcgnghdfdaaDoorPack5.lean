/- What pack's count tells. -/
import Derived.Test.YtidmmcgnghdfdaaDoorPack4
namespace Go.Proofs.YtidmmcgnghdfdaaDoor
open Go.RowKit Go.Shelf SortPlain PackPlain
set_option linter.unusedVariables false
attribute [local go_sem] Oper.semAt_some

set_option maxRecDepth 100000 in
theorem run_makeInts (n : Nat) (hn : n ≤ 1000000) (W : World) :
    (Instr.makeSlice 26 (.int .i64 (n : Int)) (.int .i64 (n : Int))).run Tryd.prog W = .ok (.slice (some ⟨W.heap.size, 0, none⟩) n n) (W.alloc (.cells (Array.replicate n (.int .i64 0)) 3)) := by
  obtain ⟨i, hi, hz0, hz1, hz2⟩ := info_parts elemInts.info
  have hr := run_make (P := Tryd.prog) W 26 3 i _ Tryd.underlying26 hi hz0 .i64 .i64 n n (by omega) (by omega) (by rw [hz2]; omega) (by omega)
  simp only [Int.toNat_natCast] at hr
  rw [hr, hz1]
  congr 3
  apply Array.ext
  · simp [madeCells]
  · intro j h1 h2
    simp [madeCells]
    show #[Value.int .i64 0][j % 1]! = _
    rw [Nat.mod_one]; rfl

/-! ### the counting, level by level from the last one on -/
def stN (ws : List Nat) (m N0 : Nat) : Nat → Nat
  | 0 => N0
  | k + 1 => 2 * npk ((lev ws (m - 1 - k)).take (stN ws m N0 k))
def stC (ws : List Nat) (m N0 : Nat) : Nat → Nat → Nat
  | 0, _ => 0
  | k + 1, i => stC ws m N0 k i + occ i ((lev ws (m - 1 - k)).take (stN ws m N0 k))
theorem stN_le {ws : List Nat} (hw : SrtN ws) (m N0 : Nat) (h : N0 ≤ (lev ws (m - 1)).length) : ∀ k, k < m → stN ws m N0 k ≤ (lev ws (m - 1 - k)).length
  | 0, _ => h
  | k + 1, hk => by
    have ih := stN_le hw m N0 h k (by omega)
    have e : m - 1 - k = (m - 1 - (k + 1)) + 1 := by omega
    rw [e] at ih
    have := npk_le hw _ _ ih
    show 2 * npk ((lev ws (m - 1 - k)).take _) ≤ _
    rw [e]; exact this
theorem cnt_st (ws : List Nat) (m N0 i : Nat) : ∀ k, k < m → cnt ws (m - 1) N0 i = stC ws m N0 k i + cnt ws (m - 1 - k) (stN ws m N0 k) i
  | 0, _ => by simp [stC, stN]
  | k + 1, hk => by
    rw [cnt_st ws m N0 i k (by omega)]
    have e : m - 1 - k = (m - 1 - (k + 1)) + 1 := by omega
    show _ = stC ws m N0 k i + occ i ((lev ws (m - 1 - k)).take (stN ws m N0 k)) + cnt ws (m - 1 - (k + 1)) (2 * npk ((lev ws (m - 1 - k)).take (stN ws m N0 k))) i
    rw [e]
    show _ = stC ws m N0 k i + _ + _
    rw [Nat.add_assoc]
    rfl
theorem cnt_end (ws : List Nat) (m N0 i : Nat) (hm : 0 < m) : stC ws m N0 m i = cnt ws (m - 1) N0 i := by
  obtain ⟨k, rfl⟩ : ∃ k, m = k + 1 := ⟨m - 1, by omega⟩
  rw [cnt_st ws (k + 1) N0 i k (by omega)]
  show stC ws (k + 1) N0 k i + occ i ((lev ws (k + 1 - 1 - k)).take _) = _
  rw [show k + 1 - 1 - k = 0 by omega]
  rfl

/-- the row of counts -/
def crow (n : Nat) (f : Nat → Nat) : Array Value := (icells ((List.range n).map f)).toArray
theorem crow_zero (n : Nat) : Array.replicate n (Value.int .i64 0) = crow n (fun _ => 0) := by
  apply Array.ext
  · simp [crow, icells]
  · intro j h1 h2; simp [crow, icells]
theorem crow_get (n : Nat) (f : Nat → Nat) (i : Nat) (h : i < n) : (crow n f)[i]? = some (.int .i64 (f i : Nat)) := by simp [crow, icells, h]
theorem crow_set (n : Nat) (f f' : Nat → Nat) (i : Nat) (h : i < n) (v : Nat) (hv : f' i = v) (ho : ∀ j, j ≠ i → f' j = f j) : (crow n f).setIfInBounds i (.int .i64 (v : Nat)) = crow n f' := by
  apply Array.ext_getElem?
  intro j
  rw [Array.getElem?_setIfInBounds]
  by_cases hj : i = j
  · subst hj
    rw [if_pos rfl, if_pos (by simp [crow, icells, h]), crow_get n f' i h, hv]
  · rw [if_neg hj]
    rcases Nat.lt_or_ge j n with h1 | h1
    · rw [crow_get _ _ _ h1, crow_get _ _ _ h1, ho j (fun e => hj e.symm)]
    · simp [crow, icells, h1]
theorem occ_snoc (l : List It) (x : It) (i : Nat) : occ i (l ++ [x]) = occ i l + occ i [x] := by
  induction l with
  | nil => simp [occ]
  | cons y l ih => cases y <;> simp only [List.cons_append, occ, ih] <;> omega
theorem npk_snoc (l : List It) (x : It) : npk (l ++ [x]) = npk l + npk [x] := by
  induction l with
  | nil => simp [npk]
  | cons y l ih => cases y <;> simp only [List.cons_append, npk, ih] <;> omega
theorem npk_len (l : List It) : npk l ≤ l.length := by
  induction l with
  | nil => simp [npk]
  | cons y l ih => cases y <;> (simp only [npk, List.length_cons]; omega)
theorem occ_len (l : List It) (i : Nat) : occ i l ≤ l.length := by
  induction l with
  | nil => simp [occ]
  | cons y l ih =>
    cases y with
    | leaf w k => simp only [occ, List.length_cons]; split <;> omega
    | pack w k => simp only [occ, List.length_cons]; omega

def It.okLeaf (n : Nat) : It → Prop
  | .leaf _ q => q < n
  | .pack _ _ => True
theorem lv_leaf (n : Nat) (l : List Nat) (k : Nat) (h : k + l.length ≤ n) : ∀ x ∈ lv l k, It.okLeaf n x := by
  induction l generalizing k with
  | nil => intro x hx; cases hx
  | cons w l ih =>
    rw [List.length_cons] at h
    intro x hx
    rcases List.mem_cons.1 hx with rfl | hx
    · show k < n; omega
    · exact ih (k + 1) (by omega) x hx
theorem mrg_leaf_lt (n : Nat) (ls : List Nat) (k : Nat) (ps : List (Nat × Nat)) : k + ls.length ≤ n → ∀ x ∈ mrg ls k ps, It.okLeaf n x :=
  mrg_ind (P := fun ls k ps => k + ls.length ≤ n → ∀ x ∈ mrg ls k ps, It.okLeaf n x)
    (fun k ps _ x hx => by rw [mrg_nil] at hx; obtain ⟨p, _, rfl⟩ := List.mem_map.1 hx; trivial)
    (fun ls k h x hx => by rw [mrg_none] at hx; exact lv_leaf n ls k h x hx)
    (fun y ls k p ps hy ih h x hx => by
      rw [mrg_leaf hy] at hx
      rw [List.length_cons] at h
      rcases List.mem_cons.1 hx with rfl | hx
      · show k < n; omega
      · exact ih (by omega) x hx)
    (fun y ls k p ps hy ih h x hx => by
      rw [mrg_pack hy] at hx
      rcases List.mem_cons.1 hx with rfl | hx
      · trivial
      · exact ih h x hx) _ ls k ps (Nat.le_refl _)
theorem lev_leaf_lt (ws : List Nat) (j : Nat) : ∀ x ∈ lev ws j, It.okLeaf ws.length x := by
  cases j with
  | zero => exact mrg_leaf_lt _ ws 0 [] (by omega)
  | succ j => exact mrg_leaf_lt _ ws 0 _ (by omega)
theorem stC_le (ws : List Nat) (m N0 i : Nat) (hl : ∀ j, (lev ws j).length ≤ 65536 ∨ m ≤ j) (hm : 0 < m) : ∀ k, k ≤ m → stC ws m N0 k i ≤ 65536 * k
  | 0, _ => Nat.le_refl _
  | k + 1, hk => by
    have ih := stC_le ws m N0 i hl hm k (by omega)
    have h1 := occ_len ((lev ws (m - 1 - k)).take (stN ws m N0 k)) i
    rw [List.length_take] at h1
    rcases hl (m - 1 - k) with h2 | h2
    · show stC ws m N0 k i + _ ≤ _
      omega
    · omega
theorem LevAt.own {W W' : World} {v : Value} {l : List It} {row : Option Nat} (h : LevAt W v l) (hg : W.grownBy W' row) (hr : ∀ r, row = some r → ∃ o : Obj, W.heap[r]? = some o ∧ o.isCells = false) : LevAt W' v l := by
  obtain ⟨a, cap, h1, h2, h3⟩ := h
  refine ⟨a, cap, h1, h2, fun j hj => ?_⟩
  obtain ⟨g, h4, h5⟩ := h3 j hj
  exact ⟨g, h4, fun q u hu => cell_kept (h5 q u hu) hg hr⟩
theorem row_own {W W' : World} {b : Nat} {o : Obj} {row : Option Nat} (h : W.heap[b]? = some o) (ho : o.isCells = true) (hg : W.grownBy W' row) (hr : ∀ r, row = some r → ∃ o : Obj, W.heap[r]? = some o ∧ o.isCells = false) : W'.heap[b]? = some o :=
  (grownBy_keeps_cells hg hr h ho).trans h
theorem LevAt.only {W W' : World} {v : Value} {l : List It} {g0 : Nat} (h : LevAt W v l) (hg : W.grownBy W' (some g0)) (hne : ∀ g, (∃ a cap n, v = .slice a n cap ∧ a = some ⟨g, 0, none⟩) → g ≠ g0 ∨ l = []) : LevAt W' v l := by
  obtain ⟨a, cap, h1, h2, h3⟩ := h
  refine ⟨a, cap, h1, h2, fun j hj => ?_⟩
  obtain ⟨g, h4, h5⟩ := h3 j hj
  refine ⟨g, h4, fun q u hu => hg.cell (h5 q u hu) ?_⟩
  intro e
  injection e with e
  simp only at e
  rcases hne g ⟨a, cap, _, h1, h4⟩ with h6 | h6
  · exact h6 e
  · subst h6; simp at hj

/-- what holds between two rounds: k levels are counted -/
structure CntI (ws : List Nat) (m N0 n G b cap : Nat) (vs : Nat → Value) (w : World) (k : Nat) (W : World) : Prop where
  r0 : W.heap[G]? = some (.cells (crow n (stC ws m N0 k)) 3 (0, 0))
  r1 : W.heap[G + 1]? = some (.cells #[.slice (some ⟨G, 0, none⟩) n n] 26 (0, 0))
  r2 : W.heap[G + 1 + 1]? = some (.cells #[.int .i64 (stN ws m N0 k : Nat)] 3 (0, 0))
  gr : w.grownBy W none

set_option maxRecDepth 100000 in
set_option maxHeartbeats 16000000 in
theorem count_any (b m cap n : Nat) (vs : Nat → Value) (ws : List Nat) (w : World) (hws : SrtN ws) (hwl : ws.length = n) (hn2 : 2 ≤ n) (hn : n ≤ 512) (hm0 : 0 < m) (hm : m ≤ 15)
    (hc : ∀ j, j < m → w.cell? ⟨b, j, none⟩ = some (vs j)) (hl : ∀ j, j < m → LevAt w (vs j) (lev ws j)) (hN : 2 * n - 2 ≤ (lev ws (m - 1)).length) (hll : ∀ j, j < m → (lev ws j).length ≤ 2048) :
    Calls Tryd.prog 18 #[.slice (some ⟨b, 0, none⟩) m cap, .int .i64 (n : Nat)] w fun e w' => ∃ v, e = .returned v ∧ (∃ g, v = .slice (some ⟨g, 0, none⟩) n n ∧ w.heap.size ≤ g) ∧ IntsAt w' v ((List.range n).map (cnt ws (m - 1) (2 * n - 2))) ∧ Hid (w.grownBy w' none) := by
  have hbl : b < w.heap.size := by
    have h := hc 0 hm0
    rcases Nat.lt_or_ge b w.heap.size with h1 | h1
    · exact h1
    · simp [World.cell?, Array.getElem?_eq_none h1] at h
  have Hsl := Lib.hid (stN_le hws m (2 * n - 2) hN)
  have Hsc := Lib.hid (fun i => stC_le ws m (2 * n - 2) i (fun j => by rcases Nat.lt_or_ge j m with h | h; exact .inl (by have := hll j h; omega); exact .inr h) hm0)
  have Hwl := Lib.hid hwl
  have Hc := Lib.hid hc
  have Hl := Lib.hid hl
  have Hll := Lib.hid hll
  clear hc hl hll hN hwl
  refine (callsIn_wide (n := 4)).1 ?_
  have hmk := run_makeInts n (by omega)
  refine callsIn_of_wp_marks Tryd.func18 rfl trivial ?_ rfl
  simp only [Tryd.ntmps18, List.size_toArray, List.length_cons, List.length_nil, Nat.reduceAdd, Nat.reduceSub, Array.replicate_succ, Array.replicate_zero, List.push_toArray, List.append_toArray, List.nil_append, List.cons_append]
  have hn' : (n : Int) ≤ 512 := by omega
  have hn2' : 2 ≤ (n : Int) := by omega
  gi_wp2_with fail
  refine ⟨trivial, (backward_in _ _ trivial rfl _ _ _ _).mono ?_⟩
  rintro e w' ⟨rfl, rfl⟩
  simp only []
  gi_wp2
  clear hmk
  simp only [World.size_alloc]
  have q0 := heap_alloc_new w (.cells (Array.replicate n (Value.int .i64 0)) 3)
  have q1 := heap_alloc_new (w.alloc (.cells (Array.replicate n (Value.int .i64 0)) 3)) (.cells #[.slice (some ⟨w.heap.size, 0, none⟩) n n] 26)
  have q2 := heap_alloc_new ((w.alloc (.cells (Array.replicate n (Value.int .i64 0)) 3)).alloc (.cells #[.slice (some ⟨w.heap.size, 0, none⟩) n n] 26)) (.cells #[.int .i64 (2 * (n : Int) - 2)] 3)
  have q3 := heap_alloc_new (((w.alloc (.cells (Array.replicate n (Value.int .i64 0)) 3)).alloc (.cells #[.slice (some ⟨w.heap.size, 0, none⟩) n n] 26)).alloc (.cells #[.int .i64 (2 * (n : Int) - 2)] 3)) (.cells #[.slice (some ⟨b, 0, none⟩) m cap] 51)
  simp only [World.size_alloc] at q1 q2 q3
  have g0 := World.grownBy_alloc w (.cells (Array.replicate n (Value.int .i64 0)) 3) none
  have g1 := World.grownBy_alloc (w.alloc (.cells (Array.replicate n (Value.int .i64 0)) 3)) (.cells #[.slice (some ⟨w.heap.size, 0, none⟩) n n] 26) none
  have g2 := World.grownBy_alloc ((w.alloc (.cells (Array.replicate n (Value.int .i64 0)) 3)).alloc (.cells #[.slice (some ⟨w.heap.size, 0, none⟩) n n] 26)) (.cells #[.int .i64 (2 * (n : Int) - 2)] 3) none
  have g3 := World.grownBy_alloc (((w.alloc (.cells (Array.replicate n (Value.int .i64 0)) 3)).alloc (.cells #[.slice (some ⟨w.heap.size, 0, none⟩) n n] 26)).alloc (.cells #[.int .i64 (2 * (n : Int) - 2)] 3)) (.cells #[.slice (some ⟨b, 0, none⟩) m cap] 51) none
  have hsz : ((((w.alloc (.cells (Array.replicate n (Value.int .i64 0)) 3)).alloc (.cells #[.slice (some ⟨w.heap.size, 0, none⟩) n n] 26)).alloc (.cells #[.int .i64 (2 * (n : Int) - 2)] 3)).alloc (.cells #[.slice (some ⟨b, 0, none⟩) m cap] 51)).heap.size = w.heap.size + 4 := by simp only [World.size_alloc]
  have p2 := row_kept q2 g3 (by simp)
  have p1 := row_kept (row_kept q1 g2 (by simp)) g3 (by simp)
  have p0 := row_kept (row_kept (row_kept q0 g1 (by simp)) g2 (by simp)) g3 (by simp)
  have hg4 := grown_trans g0 (grown_trans g1 (grown_trans g2 g3))
  generalize ((((w.alloc (.cells (Array.replicate n (Value.int .i64 0)) 3)).alloc (.cells #[.slice (some ⟨w.heap.size, 0, none⟩) n n] 26)).alloc (.cells #[.int .i64 (2 * (n : Int) - 2)] 3)).alloc (.cells #[.slice (some ⟨b, 0, none⟩) m cap] 51)) = W0 at *
  clear q0 q1 q2 g0 g1 g2 g3
  obtain ⟨G, hG⟩ : ∃ G, G = w.heap.size := ⟨_, rfl⟩
  rw [← hG] at p0 p1 p2 q3 hsz hbl ⊢
  have e0 : (2 * (n : Int) - 2) = ((2 * n - 2 : Nat) : Int) := by omega
  rw [e0] at p2
  rw [crow_zero] at p0
  obtain ⟨N0, hN0⟩ : ∃ N0, N0 = 2 * n - 2 := ⟨_, rfl⟩
  rw [← hN0] at p2 Hsl Hsc
  clear e0
  have HG := Lib.hid hG
  have HN0 := Lib.hid hN0
  clear hG hN0
  have hI0 : CntI ws m N0 n G b cap vs w 0 W0 := ⟨p0, p1, p2, hg4⟩
  refine rangeFunc_nth (P := Tryd.prog) rfl (by omega) (gf := 51) (lb := #[.pointer (some ⟨G + 1 + 1 + 1, 0, none⟩)]) rfl trivial (enters_of Tryd.func51 (by kernel_rfl) rfl)
    (fun k => #[.int .i64 ((m - 1 - k : Nat) : Int), vs (m - 1 - k)]) m (fun q => q = G + 1 + 1 + 1 ∨ q = b) (fun q hq => by show q < W0.heap.size; rcases hq with rfl | rfl <;> omega) (fun _ => rfl)
    (fun l J W hW hY h0 => backward1_in Fence.wide 3 trivial rfl (by omega) l (G + 1 + 1 + 1) b m cap (fun q => q = G + 1 + 1 + 1 ∨ q = b) vs (by omega) (.inr rfl) (.inl rfl) J hY W ((grown_bel hW none).cell (row_cell q3 0 _ rfl) (by simp)) (fun j hj => (grown_bel hW none).cell (hg4.cell (Hc.out j hj) (by simp)) (by simp)) h0)
    (CntI ws m N0 n G b cap vs w)
    (fun k A B row h hg hr => ⟨row_own h.r0 rfl hg (fun r e => (hr r e).2), row_own h.r1 rfl hg (fun r e => (hr r e).2), row_own h.r2 rfl hg (fun r e => (hr r e).2), grown_bel ((bel_grown h.gr (Nat.le_refl _)).grown hg h.gr.size (fun q e => by have := (hr q e).1; have := HG.out; omega)) none⟩)
    hI0
    (fun k => { tmps := #[Value.slice (some { block := b, off := 0 }) m cap, Value.int IntKind.i64 (n : Int), undef, undef, Value.slice none 0 0, Value.pointer (some { block := G + 1, off := 0 }), Value.pointer (some { block := G + 1 + 1, off := 0 }), undef, vs (m - 1 - k), undef, undef, undef, Value.int IntKind.i64 (n : Int), Value.slice (some { block := G, off := 0 }) n n, Value.int IntKind.i64 (n : Int), Value.int IntKind.i64 (2 * (n : Int)), Value.int IntKind.i64 (2 * (n : Int) - 2), Value.slice (some { block := b, off := 0 }) m cap, Value.func (Fn.func 51) #[] #[Value.pointer (some { block := G + 1 + 1 + 1, off := 0 })], .int .i64 ((m - 1 - k : Nat) : Int), vs (m - 1 - k), undef, undef, undef, undef, undef, undef, undef, undef, undef, undef, undef, undef, undef, undef, undef, undef, undef, undef, undef, undef, undef, undef, undef, undef], defers := [] }) ?assign ?body ?done
  case assign =>
    intro l k W K hK
    gi_wp2
    exact hK
  case body =>
    rintro l k W hI hk
    obtain ⟨j, hj⟩ : ∃ j, j = m - 1 - k := ⟨_, rfl⟩
    rw [← hj]
    have Hj := Lib.hid hj
    have hjm : j < m := by omega
    obtain ⟨L, hL⟩ : ∃ L, L = lev ws j := ⟨_, rfl⟩
    obtain ⟨N, hN⟩ : ∃ N, N = stN ws m N0 k := ⟨_, rfl⟩
    have hlv := Hl.out j hjm
    rw [← hL] at hlv
    obtain ⟨al, cp, hv, ⟨hl1, hl2⟩, hcl⟩ := hlv
    have hNL : N ≤ L.length := by have := Hsl.out k hk; rw [← hj, ← hL, ← hN] at this; exact this
    have hLl : L.length ≤ 2048 := by rw [hL]; exact Hll.out j hjm
    have Hlf : Hid (∀ x ∈ L, It.okLeaf n x) := by show ∀ x ∈ L, _; rw [hL, ← Hwl.out]; exact lev_leaf_lt ws j
    have Hitem : Hid (∀ V, W.grownBy V (some G) → ∀ i (hi : i < L.length), ∃ g a0 a1 a2, al = some ⟨g, 0, none⟩ ∧ itc L[i] = [a0, a1, a2] ∧ V.cell? ⟨g, i * 3, none⟩ = some a0 ∧ V.cell? ⟨g, i * 3 + 1, none⟩ = some a1 ∧ V.cell? ⟨g, i * 3 + 2, none⟩ = some a2) := fun V hV i hi => by
      obtain ⟨g, h1, h2⟩ := hcl i hi
      have hl3 := itc_length L[i]
      generalize itc L[i] = c at *
      match c, hl3 with
      | [a0, a1, a2], _ =>
        have h3 := h2 0 a0 rfl
        have hgl : g < w.heap.size := by
          rcases Nat.lt_or_ge g w.heap.size with h | h
          · exact h
          · simp [World.cell?, Array.getElem?_eq_none h] at h3
        have hne : some g ≠ some G := fun e => by injection e with e; have := HG.out; omega
        have key : ∀ q u, [a0, a1, a2][q]? = some u → V.cell? ⟨g, i * 3 + q, none⟩ = some u := fun q u hu => hV.cell (hI.gr.cell (h2 q u hu) (by simp)) hne
        exact ⟨g, a0, a1, a2, h1, rfl, key 0 a0 rfl, key 1 a1 rfl, key 2 a2 rfl⟩
    have c2 := row_cell hI.r2 0 _ rfl
    rw [← hN] at c2
    rw [hv]
    have hNi : (0:Int) ≤ (N:Int) := by omega
    have hNi2 : (N:Int) ≤ (cp:Int) := by omega
    have HL := Lib.hid hL
    have HN := Lib.hid hN
    have HI := Lib.hid hI
    clear hv hL hN hj hcl hI
    gi_wp2
    clear c2
    gi_loopw [9, 25] (fun pv iv wr => ∃ i : Nat, iv = .int .i64 (i : Nat) ∧ i ≤ N ∧ pv = .int .i64 (npk (L.take i) : Nat) ∧ Hid (wr.heap[G]? = some (.cells (crow n (fun q => stC ws m N0 k q + occ q (L.take i))) 3 (0, 0))) ∧ Hid (W.grownBy wr (some G))) (fun _ iv _ => N - (intOf iv).toNat)
    case atStart => exact ⟨0, rfl, Nat.zero_le _, rfl, by show _ = _; rw [HI.out.r0]; rfl, grown_self _ _⟩
    case round =>
      obtain ⟨i, rfl, hi, rfl, hr, hg⟩ := hrel
      by_cases hlt : i < N
      · have hiL : i < L.length := by omega
        obtain ⟨g, a0, a1, a2, rfl, hit, d0, d1, d2⟩ := Hitem.out wr hg.out i hiL
        have hlf := Hlf.out L[i] (List.getElem_mem hiL)
        have htk : L.take (i + 1) = L.take i ++ [L[i]] := (List.take_succ_eq_append_getElem hiL)
        have hiN : (i : Int) < (N : Int) := by omega
        have e1 := row_cell (row_kept HI.out.r1 hg.out (by simp)) 0 _ rfl
        generalize L[i] = x at *
        cases x with
        | leaf wx qx =>
          simp only [itc, List.cons.injEq] at hit
          obtain ⟨rfl, rfl, rfl, -⟩ := hit
          have ga := World.grownBy_alloc wr (.cells #[Value.int IntKind.u64 (wx : Nat), Value.int IntKind.i64 (qx : Nat), Value.int IntKind.i64 0] 85) none
          have hqn : qx < n := hlf
          have hr2 := row_kept hr.out ga (by simp)
          obtain ⟨c, hc⟩ : ∃ c, c = stC ws m N0 k qx + occ qx (L.take i) := ⟨_, rfl⟩
          have hcb : c ≤ 1000000 := by
            have h1 := Hsc.out qx k (by omega)
            have h2 := occ_len (L.take i) qx
            rw [List.length_take] at h2
            omega
          have e2 := ga.cell e1 (by simp)
          have e3 := row_cell hr2 qx _ (crow_get n _ qx hqn)
          have e4 := row_free hr2 qx
          rw [← hc] at e3
          have HR2 := Lib.hid hr2
          have Hc2 := Lib.hid hc
          have hqi : (qx : Int) < (n : Int) := by omega
          clear ga hr2 hc hr
          gi_wp2
          go_roundw
          case rel =>
            refine ⟨i + 1, by rw [Int.natCast_add]; rfl, by omega, by rw [htk, npk_snoc]; rfl, ?_, grown_trans hg.out (grown_trans (World.grownBy_alloc wr _ _) (grown_setCell _ ⟨G, qx, none⟩ _))⟩
            show _ = _
            rw [heap_setCell_same _ G qx _ _ _ HR2.out]
            congr 2
            have := crow_set n (fun q => stC ws m N0 k q + occ q (L.take i)) (fun q => stC ws m N0 k q + occ q (L.take (i + 1))) qx hqn (c + 1) (by rw [htk, occ_snoc, Hc2.out]; simp [occ]; omega) (fun q hq => by rw [htk, occ_snoc]; simp [occ]; omega)
            rw [← this, Int.natCast_add]; rfl
          case measure => simp [intOf]; omega
        | pack wx qx =>
          simp only [itc, List.cons.injEq] at hit
          obtain ⟨rfl, rfl, rfl, -⟩ := hit
          have hpl := npk_len (L.take i)
          rw [List.length_take] at hpl
          obtain ⟨pc, hpc⟩ : ∃ pc, pc = npk (L.take i) := ⟨_, rfl⟩
          rw [← hpc] at hpl ⊢
          have hpl2 : pc ≤ 2048 := by omega
          have Hpc := Lib.hid hpc
          clear hpc hpl
          gi_wp2
          go_roundw
          case rel =>
            refine ⟨i + 1, by rw [Int.natCast_add]; rfl, by omega, by rw [htk, npk_snoc, ← Hpc.out, Int.natCast_add]; rfl, ?_, grown_trans hg.out (World.grownBy_alloc wr _ _)⟩
            show _ = _
            rw [row_kept hr.out (World.grownBy_alloc wr (.cells #[Value.int IntKind.u64 (wx : Nat), Value.int IntKind.i64 (-1), Value.int IntKind.i64 (qx : Nat)] 85) none) (by simp)]
            congr 3
            funext q
            rw [htk, occ_snoc]; simp [occ]
          case measure => simp [intOf]; omega
      · obtain rfl : i = N := by omega
        have r2 := row_kept HI.out.r2 hg.out (by simp; omega)
        have e5 := row_free r2 0
        have e6 := row_cell r2 0 _ rfl
        have hpl := npk_len (L.take i)
        rw [List.length_take] at hpl
        obtain ⟨pc, hpc⟩ : ∃ pc, pc = npk (L.take i) := ⟨_, rfl⟩
        rw [← hpc] at hpl ⊢
        have hpl2 : pc ≤ 2048 := by omega
        have Hpc := Lib.hid hpc
        have R2 := Lib.hid r2
        clear hpc hpl r2
        gi_wp2
        have hG1 := HG.out
        refine ⟨(KeepsOthers.of_grownBy hg.out (fun q o e ho => by injection e with e; subst e; rw [HI.out.r0] at ho; injection ho with ho; subst ho; rfl)).trans (KeepsOthers.setCell _ _ _), (SameOn.grown hg.out (fun q hq e => by injection e with e; rcases hq with rfl | rfl <;> omega)).trans (SameOn.grown (grown_setCell wr ⟨G + 1 + 1, 0, none⟩ _) (fun q hq e => by injection e with e; simp only at e; rcases hq with rfl | rfl <;> omega)), ?_, ?_, ?_, ?_⟩
        · rw [heap_setCell_other wr ⟨G + 1 + 1, 0, none⟩ G _ (by simp; omega), hr.out]
          congr 3
          rw [HL.out, HN.out, Hj.out]
          rfl
        · rw [heap_setCell_other wr ⟨G + 1 + 1, 0, none⟩ (G + 1) _ (by simp)]
          exact row_kept HI.out.r1 hg.out (by simp)
        · rw [heap_setCell_same wr (G + 1 + 1) 0 _ _ _ R2.out]
          have e7 : stN ws m N0 (k + 1) = 2 * pc := by rw [Hpc.out, HL.out, HN.out, Hj.out]; rfl
          rw [e7, Int.natCast_mul]
          rfl
        · exact grown_bel (((bel_grown HI.out.gr (Nat.le_refl _)).grown hg.out HI.out.gr.size (fun q e => by injection e with e; omega)).grown (grown_setCell wr ⟨G + 1 + 1, 0, none⟩ _) (Nat.le_trans HI.out.gr.size hg.out.size) (fun q e => by injection e with e; simp only at e; omega)) none
  case done =>
    rintro D W hD hI hK
    have c1 := row_cell hI.r1 0 _ rfl
    have HI := Lib.hid hI
    clear hI
    gi_wp2
    refine ⟨by simp, .inl ⟨_, _, rfl, run_takeDeferred hK, ?_⟩⟩
    refine ⟨_, results_tmp rfl _ _ _, _, rfl, ⟨G, rfl, by rw [HG.out]; exact Nat.le_refl _⟩, ?_, ?_⟩
    · have hI := HI.out
      have r0 : (W.putObj D (.deferred none)).heap[G]? = _ := (World.putObj_heap_other (by omega)).trans hI.r0
      refine ⟨some ⟨G, 0, none⟩, n, by simp, by simp [maxLen]; omega, fun i hi => ⟨G, rfl, ?_⟩⟩
      have hin : i < n := by simpa using hi
      rw [row_cell r0 i _ (crow_get n _ i hin), cnt_end ws m N0 i hm0, HN0.out]
      simp
    · have hI := HI.out
      exact grown_bel ((bel_grown hI.gr (Nat.le_refl _)).grown (grownBy_putObj' W D (.deferred none)) hI.gr.size (fun q e => by injection e with e; have := HG.out; omega)) none
end Go.Proofs.YtidmmcgnghdfdaaDoor
