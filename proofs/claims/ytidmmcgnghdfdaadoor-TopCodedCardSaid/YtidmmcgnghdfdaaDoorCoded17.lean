/- The walk of TopCoded: up to its loop over the symbols. -/
import Derived.Test.YtidmmcgnghdfdaaDoorCoded15
import Derived.Test.YtidmmcgnghdfdaaDoorCoded16
import Derived.Test.YtidmmcgnghdfdaaDoorBegins
namespace Go.Proofs.YtidmmcgnghdfdaaDoor
open Go.RowKit SortPlain PackPlain CanonPlain BitsPlain
set_option linter.unusedVariables false

set_option maxRecDepth 100000 in
theorem run_makeNums (n : Nat) (hn : n ≤ 1000000) (W : World) :
    (Instr.makeSlice 24 (.int .i64 (n : Int)) (.int .i64 (n : Int))).run Tryd.prog W = .ok (.slice (some ⟨W.heap.size, 0, none⟩) n n) (W.alloc (.cells (Array.replicate n (.int .u64 0)) 25)) := by
  obtain ⟨i, hi, hz0, hz1, hz2⟩ := info_parts elemNums.info
  have hr := run_make (P := Tryd.prog) W 24 25 i _ Tryd.underlying24 hi hz0 .i64 .i64 n n (by omega) (by omega) (by rw [hz2]; omega) (by omega)
  simp only [Int.toNat_natCast] at hr
  rw [hr, hz1]
  congr 3
  apply Array.ext
  · simp [madeCells]
  · intro j h1 h2
    simp [madeCells]
    show #[Value.int .u64 0][j % 1]! = _
    rw [Nat.mod_one]; rfl
/-- the row of the counted symbols -/
def urow (n : Nat) (f : Nat → Nat) : Array Value := (ncells ((List.range n).map f)).toArray
theorem urow_zero (n : Nat) : Array.replicate n (Value.int .u64 0) = urow n (fun _ => 0) := by
  apply Array.ext
  · simp [urow, ncells]
  · intro j h1 h2; simp [urow, ncells]
theorem urow_get (n : Nat) (f : Nat → Nat) (i : Nat) (h : i < n) : (urow n f)[i]? = some (.int .u64 (f i : Nat)) := by simp [urow, ncells, h]
theorem urow_set (n : Nat) (f f' : Nat → Nat) (i : Nat) (h : i < n) (v : Nat) (hv : f' i = v) (ho : ∀ j, j ≠ i → f' j = f j) : (urow n f).setIfInBounds i (.int .u64 (v : Nat)) = urow n f' := by
  apply Array.ext_getElem?
  intro j
  rw [Array.getElem?_setIfInBounds]
  by_cases hj : i = j
  · subst hj
    rw [if_pos rfl, if_pos (by simp [urow, ncells, h]), urow_get n f' i h, hv]
  · rw [if_neg hj]
    rcases Nat.lt_or_ge j n with h1 | h1
    · rw [urow_get _ _ _ h1, urow_get _ _ _ h1, ho j (fun e => hj e.symm)]
    · simp [urow, ncells, h1]
theorem NumsAt.of_urow {W : World} {G n : Nat} {f : Nat → Nat} {t : TypeId} (h : W.heap[G]? = some (.cells (urow n f) t (0, 0))) (hn : n ≤ 512) : NumsAt W (.slice (some ⟨G, 0, none⟩) n n) ((List.range n).map f) :=
  ⟨some ⟨G, 0, none⟩, n, by simp, by simp [maxLen]; omega, fun i hi => ⟨_, rfl, by rw [add_plain, Nat.zero_add, row_cell h i _ (urow_get n f i (by simpa using hi))]; simp⟩⟩

/-- the bytes of a row, as numbers -/
theorem bytes_of_row {w : World} {a : Option Addr} {len cap : Nat} {zs : List Int} (h : IsRow .u8 w a len cap zs) : ∃ L : List Nat, L.length = len ∧ len ≤ maxLen ∧ (∀ x ∈ L, x < 256) ∧ ∀ W : World, w.grownBy W none → ∀ i (hi : i < L.length), ∃ x, a = some x ∧ W.cell? (x.add i) = some (.int .u8 (L[i] : Nat)) := by
  rcases h with ⟨rfl, rfl, rfl, rfl⟩ | ⟨x, rfl, hl, hm, hz, hc, hwf⟩
  · exact ⟨[], rfl, Nat.zero_le _, by simp, fun W _ i hi => by simp at hi⟩
  · have hb : ∀ n ∈ zs, 0 ≤ n ∧ n < 256 := fun n hn => by
      have hm := hwf n hn
      simp [Lit.wf, IntKind.min, IntKind.max, IntKind.signed, IntKind.bits] at hm
      omega
    refine ⟨(zs.take len).map Int.toNat, by simp; omega, by omega, ?_, fun W hW i hi => ⟨x, rfl, ?_⟩⟩
    · intro y hy
      obtain ⟨n, hn, rfl⟩ := List.mem_map.1 hy
      have := hb n (List.mem_of_mem_take hn)
      omega
    · simp at hi
      have hi2 : i < zs.length := by omega
      rw [hW.cell (hc i hi2) (by simp)]
      have := hb zs[i] (List.getElem_mem hi2)
      simp [hi2]
      omega

/-- what the lengths of the counted symbols are -/
structure LenOk (L X : List Nat) : Prop where
  ok : CodeOk X
  len : X.length = 256
  has : ∀ x ∈ L, 1 ≤ X.getD x 0
theorem hist_wt (L : List Nat) (q : Nat) (hq : q < 256) : wt ((List.range 256).map (fun q => L.count q)) q = L.count q := by unfold wt; simp [List.getD, hq]
theorem lengths_row {G : Nat} {L : List Nat} {W : World} (hr : W.heap[G]? = some (.cells (urow 256 (fun q => L.count q)) 25 (0, 0))) (hb : ∀ x ∈ L, x < 256) (hl : L.length ≤ 300) (h1 : 1 ≤ L.length) :
    Hid (NumsAt W (.slice (some ⟨G, 0, none⟩) 256 256) ((List.range 256).map (fun q => L.count q))) ∧ Hid (Calls Tryd.prog 5 #[.slice (some ⟨G, 0, none⟩) 256 256, .int .i64 15] W fun e w' => ∃ X r, e = .returned (.tuple #[r, .int .i64 0]) ∧ Hid (LenOk L X) ∧ Hid (IntsAt w' r X) ∧ Hid (W.grownBy w' none)) := by
  have hn := NumsAt.of_urow hr (by omega)
  refine ⟨hn, ?_⟩
  have hlen : ((List.range 256).map (fun q => L.count q)).length = 256 := by simp
  have hle : ∀ x ∈ (List.range 256).map (fun q => L.count q), x ≤ 1099511627776 := fun x hx => by
    obtain ⟨q, _, rfl⟩ := List.mem_map.1 hx
    have := List.count_le_length (a := q) (l := L)
    omega
  have h0 : L[0] ∈ L := List.getElem_mem (by omega)
  have hpos : 0 < (have_ ((List.range 256).map (fun q => L.count q)) ((List.range 256).map (fun q => L.count q)).length).length := by
    refine List.length_pos_of_mem (a := L[0]) ?_
    unfold have_
    rw [List.mem_filter]
    refine ⟨List.mem_range.2 (by rw [hlen]; exact hb _ h0), ?_⟩
    rw [hist_wt L _ (hb _ h0)]
    exact decide_eq_true (List.count_pos_iff.2 h0)
  refine (lengths_in _ ((List.range 256).map (fun q => L.count q)) 15 W hn (by omega) hle hpos (by omega) (by omega)).mono ?_
  rintro e w' ⟨order, ho, hg, hq⟩
  have hol : order.length ≤ 256 := by rw [ho.len]; have := have_le ((List.range 256).map (fun q => L.count q)) ((List.range 256).map (fun q => L.count q)).length; omega
  have hop : 0 < order.length := by rw [ho.len]; exact hpos
  have e15 : (2 : Nat) ^ 15 = 32768 := by decide
  rcases hq with ⟨h, _⟩ | ⟨h, r, rfl, hi⟩
  · omega
  · refine ⟨lens _ order 15, r, rfl, ⟨codeOk_lens ho hop (by omega) (by omega), by rw [lens_length]; exact hlen, fun x hx => ?_⟩, hi, hg⟩
    refine (lens_ok ho 15 (by omega) (by omega) h x (by rw [hlen]; exact hb x hx)).2 ?_
    rw [hist_wt L x (hb x hx)]
    exact List.count_pos_iff.2 hx

/-- the calls behind the lengths, at right lengths -/
theorem rest_calls (L : List Nat) (hb : ∀ x ∈ L, x < 256) (hl : L.length ≤ 300) (X : List Nat) (hX : LenOk L X) :
    Hid (∀ (W : World) (r : Value), IntsAt W r X → Calls Tryd.prog 6 #[.agg #[.string ⟨#[]⟩, .int .i64 0], r] W fun e w' => ∃ B, e = .returned (.tuple #[.agg #[.string ⟨B⟩, .int .i64 ((tabBits X).length : Nat)], .int .i64 0]) ∧ Hid (IsBits B.toList (tabBits X)) ∧ Hid (W.grownBy w' none)) ∧
    Hid (∀ (W : World) (r v : Value) (B : Array UInt8), IntsAt W r X → NumsAt W v L → IsBits B.toList (tabBits X) → Calls Tryd.prog 7 #[.agg #[.string ⟨B⟩, .int .i64 ((tabBits X).length : Nat)], r, v] W fun e w' => ∃ B, e = .returned (.tuple #[.agg #[.string ⟨B⟩, .int .i64 ((tabBits X).length + (symBits X L).length : Nat)], .int .i64 0]) ∧ Hid (IsBits B.toList (tabBits X ++ symBits X L)) ∧ Hid (W.grownBy w' none)) ∧
    Hid (∀ (W : World) (B : Array UInt8) (tE : TypeId) (vE : Value), W.cell? ⟨0, 0, none⟩ = some (.iface tE vE) → IsBits B.toList (tabBits X ++ symBits X L) → Calls Tryd.prog 8 #[.agg #[.string ⟨B⟩, .int .i64 ((tabBits X).length + (symBits X L).length : Nat)], .int .i64 0, .int .i64 256] W fun e w' => ∃ v, e = .returned (.tuple #[v, .int .i64 ((tabBits X).length : Nat), .int .i64 0]) ∧ Hid (IntsAt w' v X) ∧ Hid (W.grownBy w' none)) ∧
    Hid (∀ (W : World) (B : Array UInt8) (v : Value) (j x : Nat), L[j]? = some x → IntsAt W v X → IsBits B.toList (tabBits X ++ symBits X L) → Calls Tryd.prog 9 #[.agg #[.string ⟨B⟩, .int .i64 ((tabBits X).length + (symBits X L).length : Nat)], .int .i64 ((tabBits X).length + (symBits X (L.take j)).length : Nat), v] W fun e w' => e = .returned (.tuple #[.int .u64 (x : Nat), .int .i64 ((tabBits X).length + (symBits X (L.take (j + 1))).length : Nat), .int .i64 0]) ∧ Hid (W.grownBy w' none)) ∧
    Hid (∀ (W : World) (u v : Value), NumsAt W u ((List.range 256).map (fun q => L.count q)) → IntsAt W v X → Calls Tryd.prog 10 #[u, v] W fun e w' => e = .returned (.tuple #[.int .u64 ((symBits X L).length : Nat), .int .i64 0]) ∧ w' = W) ∧
    Hid (∀ (W : World) (v : Value), IntsAt W v X → Calls Tryd.prog 11 #[v] W fun e w' => e = .returned (.tuple #[.int .i64 ((tabBits X).length : Nat), .int .i64 0]) ∧ Hid (W.grownBy w' none)) ∧
    (tabBits X).length ≤ 20000 ∧ (symBits X L).length ≤ 20000 := by
  have hT0 : sizeTo X X.length = (tabBits X).length := by rw [tabBits_eq, tabTo_length]
  have hT1 : (tabBits X).length ≤ 20000 := by
    have h1 := sizeTo_le X hX.ok.le X.length
    have h2 := hX.ok.len
    omega
  have hS1 : (symBits X L).length ≤ 20000 := by
    have h1 := symBits_le X hX.ok.le L
    omega
  have hwl : ((List.range 256).map (fun q => L.count q)).length = 256 := by simp
  refine ⟨fun W r hr => ?_, fun W r v B hr hv hB => ?_, fun W B tE vE hE hB => ?_, fun W B v j x hj hv hB => ?_, fun W u v hu hv => ?_, fun W v hv => ?_, hT1, hS1⟩
  · refine (twrite_any r X ⟨#[]⟩ [] W hr hX.ok IsBits.nil (by simp; omega)).mono ?_
    rintro e w' ⟨B', h1, rfl, h2⟩
    exact ⟨B'.toArray, rfl, h1, h2⟩
  · refine (cwrite_any r v X L ⟨B⟩ (tabBits X) W hr hv hX.ok hB (fun x hx => ⟨by rw [hX.len]; exact hb x hx, hX.has x hx⟩) (by omega)).mono ?_
    rintro e w' ⟨B', h1, rfl, h2⟩
    exact ⟨B'.toArray, by rw [List.length_append], h1, h2⟩
  · have h := tread_any ⟨B⟩ (tabBits X ++ symBits X L) (symBits X L) X tE vE W hE hB (by rw [List.length_append]; omega) hX.ok rfl
    rw [hX.len, List.length_append] at h
    exact h
  · obtain ⟨hjl, rfl⟩ := List.getElem?_eq_some_iff.1 hj
    obtain ⟨h1, h2, h3⟩ := sym_next X L (tabBits X) j hjl
    have hm := List.getElem_mem hjl
    have h := cread_any v X ⟨B⟩ (tabBits X ++ symBits X L) ((tabBits X).length + (symBits X (L.take j)).length) L[j] W hv hX.ok hB (by rw [List.length_append]; omega) (by rw [hX.len]; exact hb _ hm) (hX.has _ hm) (by rw [List.length_append]; omega) h1
    rw [List.length_append, Nat.add_assoc, ← h2] at h
    exact h
  · have h := cost_any u v ((List.range 256).map (fun q => L.count q)) X W hu hv (by omega) (fun x hx => by
      obtain ⟨q, _, rfl⟩ := List.mem_map.1 hx
      have := List.count_le_length (a := q) (l := L)
      omega) (by rw [hX.len, hwl]) (fun s hs => ⟨hX.ok.le s, fun h => by
      rw [hwl] at hs
      rw [hist_wt L s hs] at h
      exact hX.has s (List.count_pos_iff.1 h)⟩)
    rw [hwl, csum_congr (f' := fun q => L.count q) (g' := wt X) 256 (fun q hq => ⟨hist_wt L q hq, rfl⟩), csum_list (wt X) 256 L hb] at h
    rw [symBits_length]
    exact h
  · have h := size_any v X W hv hX.ok
    rw [hT0] at h
    exact h

set_option maxRecDepth 100000 in
set_option maxHeartbeats 8000000 in
theorem topCoded_walk (a0 : Option Addr) (len0 cap0 : Nat) (z0 : List Int) (tE : TypeId) (vE : Value) (w : World) (w0 : IsRow .u8 w a0 len0 cap0 z0) (hE : w.cell? ⟨0, 0, none⟩ = some (.iface tE vE)) :
    Calls Tryd.prog 3 #[.slice a0 len0 cap0] w fun e w' => e = .returned (.bool true) ∧ Below w.heap.size w w' := by
  have HB := Lib.hid (fun w => begins_any w)
  obtain ⟨L, hLl, hlm, hLb, hLc⟩ := bytes_of_row w0
  have hlm2 : (len0 : Int) ≤ 9223372036854775807 := by unfold maxLen at hlm; omega
  clear w0 hlm
  by_cases hbig : 300 < len0 ∨ len0 = 0
  · clear hE hLc hLb hLl
    rcases hbig with hbig | rfl
    · have hbi : (300 : Int) < (len0 : Int) := by omega
      go_enter Tryd.func3, Tryd.ntmps3
      go_wp2_with (first
        | (go_at_call 4; refine (HB.out _).mono ?_; rintro e w1 ⟨rfl, hb1⟩)
        | fail)
      go_ret
      exact ⟨rfl, hb1⟩
    · go_enter Tryd.func3, Tryd.ntmps3
      go_wp2_with (first
        | (go_at_call 4; refine (HB.out _).mono ?_; rintro e w1 ⟨rfl, hb1⟩)
        | fail)
      go_ret
      exact ⟨rfl, hb1⟩
  · have hbi : (len0 : Int) ≤ 300 := by omega
    have hb0 : (1 : Int) ≤ (len0 : Int) := by omega
    have hb00 : ((len0 : Int) == 0) = false := by simp; omega
    have hb1' : len0 ≤ 300 := by omega
    have hmk : ∀ W : World, (Instr.makeSlice 24 (.int .i64 256) (.int .i64 256)).run Tryd.prog W = .ok (.slice (some ⟨W.heap.size, 0, none⟩) 256 256) (W.alloc (.cells (urow 256 (fun _ => 0)) 25)) := fun W => by
      have h := run_makeNums 256 (by omega) W
      rw [urow_zero] at h
      exact h
    have HLc : Hid (∀ W : World, w.grownBy W none → ∀ i, i < len0 → ∃ (x : Addr) (y : Nat), a0 = some x ∧ W.cell? (x.add i) = some (.int .u8 (y : Nat)) ∧ y < 256 ∧ L.take (i + 1) = L.take i ++ [y]) := fun W hW i hi => by
      obtain ⟨x, h1, h2⟩ := hLc W hW i (by omega)
      exact ⟨x, L[i]'(by omega), h1, h2, hLb _ (List.getElem_mem _), List.take_succ_eq_append_getElem (by omega)⟩
    have HLb := Lib.hid hLb
    have HLl := Lib.hid hLl
    have HE := Lib.hid hE
    clear hbig hLb hLl hLc hE
    go_enter Tryd.func3, Tryd.ntmps3
    go_wp2_with (first
      | (go_at_call 4; (with_reducible refine (HB.out _).mono ?_); rintro e w1 ⟨rfl, hb1⟩; have Hg1 := Lib.hid (grown_of_below hb1); clear hb1)
      | fail)
    clear hmk
    have q0 := heap_alloc_new w1 (.cells (urow 256 (fun _ => 0)) 25)
    have g0 : w.grownBy (w1.alloc (.cells (urow 256 (fun _ => 0)) 25)) none := grown_trans Hg1.out (World.grownBy_alloc _ _ _)
    have hsz : (w1.alloc (.cells (urow 256 (fun _ => 0)) 25)).heap.size = w1.heap.size + 1 := Array.size_push _
    generalize w1.alloc (.cells (urow 256 (fun _ => 0)) 25) = w2 at q0 g0 hsz ⊢
    obtain ⟨G, hG⟩ : ∃ G, G = w1.heap.size := ⟨_, rfl⟩
    rw [← hG] at q0 hsz ⊢
    have HG : Hid (w.heap.size ≤ G) := by show _ ≤ _; rw [hG]; exact Hg1.out.size
    have Hq0 := Lib.hid q0
    have Hg0 := Lib.hid g0
    have Hsz := Lib.hid hsz
    clear q0 g0 hsz hG
    go_loopw [4, 37] (fun sv iv wr => ∃ (i : Nat) (v : Value), v = sv ∧ iv = .int .i64 (i : Nat) ∧ i ≤ len0 ∧ Hid (wr.heap[G]? = some (.cells (urow 256 (fun q => (L.take i).count q)) 25 (0, 0))) ∧ Hid (Owns wr (G + 1) 25 v (ncells (L.take i))) ∧ Hid (G + 1 ≤ wr.heap.size) ∧ Hid (w.grownBy wr none)) (fun _ iv _ => len0 - (intOf iv).toNat)
    case atStart => exact ⟨0, _, rfl, rfl, Nat.zero_le _, by show _ = _; rw [Hq0.out]; simp, Owns.nil _ _ _, by show _ ≤ _; rw [Hsz.out]; exact Nat.le_refl _, Hg0⟩
    case round =>
      clear Hq0 Hg0 Hsz
      obtain ⟨i, v, rfl, rfl, hi, hr, ho, hs, hg⟩ := hrel
      by_cases hlt : i < len0
      · obtain ⟨x, y, rfl, cx, hy, htk⟩ := HLc.out wr hg.out i hlt
        have c2 : wr.cell? ⟨G, y, none⟩ = some (.int .u64 ((L.take i).count y : Nat)) := row_cell hr.out y _ (urow_get 256 _ y hy)
        have c3 := row_free hr.out y
        have hcb : (L.take i).count y ≤ 300 := by have := List.count_le_length (a := y) (l := L.take i); rw [List.length_take] at this; omega
        have htl : (L.take i).length ≤ 300 := by rw [List.length_take]; omega
        obtain ⟨c, hc⟩ : ∃ c, c = (L.take i).count y := ⟨_, rfl⟩
        rw [← hc] at c2 hcb
        have Hc := Lib.hid hc
        have Htk := Lib.hid htk
        have hyi : (y : Int) ≤ 255 := by omega
        have hii : (i : Int) < (len0 : Int) := by omega
        obtain ⟨c1, hc1⟩ : ∃ c1, c1 = c + 1 := ⟨_, rfl⟩
        have hw1 : IntKind.u64.wrap ((c : Int) + 1) = (c1 : Int) := by rw [wrap64u_in _ (by omega) (by omega)]; omega
        have Hc1 := Lib.hid hc1
        have hw2 : IntKind.u64.wrap (y : Int) = (y : Int) := wrap64u_in _ (by omega) (by omega)
        have hne : v.ownBlock ≠ some G := fun e => by
          have := (ho.out.block_lt G e).1
          omega
        have hg3 := grown_setCell wr ⟨G, y, none⟩ (.int .u64 (c1 : Int))
        have ho3 : Hid (Owns (wr.setCell ⟨G, y, none⟩ (.int .u64 (c1 : Int))) (G + 1) 25 v (ncells (L.take i))) := ho.out.kept_of hg3 (.inl hne)
        have hr3 : Hid ((wr.setCell ⟨G, y, none⟩ (.int .u64 (c1 : Int))).heap[G]? = some (.cells (urow 256 (fun q => (L.take (i + 1)).count q)) 25 (0, 0))) := by
          show _ = _
          rw [heap_setCell_same _ G y _ _ _ hr.out]
          congr 2
          exact urow_set 256 _ _ y hy c1 (by rw [Htk.out, List.count_append, ← Hc.out, Hc1.out]; simp) (fun j hj => by rw [Htk.out, List.count_append]; simp [List.count_cons, List.count_nil]; exact fun e => hj e.symm)
        have hs3 : Hid (G + 1 ≤ (wr.setCell ⟨G, y, none⟩ (.int .u64 (c1 : Int))).heap.size) := Nat.le_trans hs.out hg3.size
        have hgw : Hid (w.grownBy (wr.setCell ⟨G, y, none⟩ (.int .u64 (c1 : Int))) none) := grown_bel ((bel_grown hg.out (Nat.le_refl _)).trans (below_grown hg3 HG.out hg.out.size)) none
        have Hne := Lib.hid hne
        have Hl1 : Hid (((ncells (L.take i)).length + 1) * 8 ≤ 140737488355328) := by show _ ≤ _; rw [ncells_length]; omega
        have Hl2 : Hid ((ncells (L.take i)).length + 1 ≤ maxLen) := by show _ ≤ _; rw [ncells_length]; unfold maxLen; omega
        clear hc htk hne hg3 htl hc1
        go_wp2_with (first
          | (at_builtin; refine wpList_add1 rfl (.tmp 47) (.tmp 50) 24 rfl (G + 1) 25 (.int .u64 0) 8 elemNums _ (ncells (L.take i)) rfl ho3.out (.int .u64 (y : Nat)) (by simp [Act.eval]) rfl Hl1.out Hl2.out hs3.out ?_; intro g cap w5 ho5 hg5; have HO5 := Lib.hid ho5; have HG5 := Lib.hid hg5; clear ho5 hg5)
          | fail)
        refine ⟨⟨i + 1, _, rfl, by rw [Int.natCast_add]; rfl, by omega, ?_, ?_, ?_, ?_⟩, by simp [intOf]; omega⟩
        · exact HG5.out.row hr3.out Hne.out
        · show Owns _ _ _ _ _
          rw [Htk.out, ncells_append]; exact HO5.out
        · exact Nat.le_trans hs3.out HG5.out.grown.size
        · exact grown_bel ((bel_grown hgw.out (Nat.le_refl _)).trans ((HG5.out.below ho3.out hs3.out).mono (by have := HG.out; omega))) none
      · obtain rfl : i = len0 := by omega
        have hLt : L.take i = L := List.take_of_length_le (by rw [HLl.out]; exact Nat.le_refl _)
        rw [hLt] at hr ho
        have HNS : Hid (NumsAt wr v L) := NumsAt.of_owns ho.out (by rw [HLl.out]; unfold maxLen; omega)
        have HLen := lengths_row hr.out HLb.out (by rw [HLl.out]; omega) (by rw [HLl.out]; omega)
        clear ho hLt
        obtain ⟨HNW, HL1⟩ := HLen
        have HTab := rest_calls L HLb.out (by rw [HLl.out]; omega)
        obtain ⟨av, cv, rfl, hv1, hv2⟩ := HNS.out
        clear hv1 hv2
        obtain ⟨n0, hn0⟩ : ∃ n0, n0 = L.length := ⟨_, rfl⟩
        rw [← hn0] at HNS ⊢
        have Hn0 := Lib.hid hn0
        have hni : n0 = i := by rw [hn0]; exact HLl.out
        subst hni
        clear hn0 hr hs
        have HV := Lib.hid (show ∀ W : World, wr.grownBy W none → ∀ j, j < n0 → ∃ (q : Addr) (x : Nat), av = some q ∧ W.cell? (q.add j) = some (.int .u64 (x : Nat)) ∧ x ∈ L ∧ L[j]? = some x from fun W hW j hj => by
          obtain ⟨a', cp', h1, _, h2⟩ := HNS.out.grown hW
          injection h1 with h1
          subst h1
          have hj2 : j < L.length := by have := Hn0.out; omega
          obtain ⟨q, h3, h4⟩ := h2 j hj2
          exact ⟨q, L[j], h3, h4, List.getElem_mem hj2, List.getElem?_eq_getElem hj2⟩)
        go_wp2_with fail
        with_reducible refine HL1.out.mono ?_
        rintro e w3 ⟨X, r, rfl, hX, hxr, hg3⟩
        obtain ⟨HTw, HCw, HRd, HCr0, HCo, HSz, hT, hS⟩ := HTab X hX.out
        obtain ⟨P, hP⟩ : ∃ P : Nat → Nat, ∀ j, P j = (tabBits X).length + (symBits X (L.take j)).length := ⟨_, fun _ => rfl⟩
        have hP0 : P 0 = (tabBits X).length := by rw [hP]; simp [symBits]
        have hPn : P n0 = (tabBits X).length + (symBits X L).length := by rw [hP, List.take_of_length_le (by rw [HLl.out]; exact Nat.le_refl _)]
        have HCr : Hid (∀ (W : World) (B : Array UInt8) (v : Value) (j x : Nat), L[j]? = some x → IntsAt W v X → IsBits B.toList (tabBits X ++ symBits X L) → Calls Tryd.prog 9 #[.agg #[.string ⟨B⟩, .int .i64 ((tabBits X).length + (symBits X L).length : Nat)], .int .i64 (P j : Nat), v] W fun e w' => e = .returned (.tuple #[.int .u64 (x : Nat), .int .i64 (P (j + 1) : Nat), .int .i64 0]) ∧ Hid (W.grownBy w' none)) := fun W B v j x h1 h2 h3 => by
          have h := HCr0.out W B v j x h1 h2 h3
          rw [← hP, ← hP] at h
          exact h
        obtain ⟨n2, hn2⟩ : ∃ n2, n2 = (tabBits X).length + (symBits X L).length := ⟨_, rfl⟩
        rw [← hn2] at HCw HRd HCr hPn
        have hn2i : n2 ≤ 40000 := by omega
        clear HCr0 HTab hP
        generalize (tabBits X).length = T at HTw HCw HRd HSz hT hP0 hn2
        generalize (symBits X L).length = S at HCo hS hn2
        have HP0 := Lib.hid hP0
        have HPn := Lib.hid hPn
        have hw5 : IntKind.i64.wrap ((n2 : Int) - (T : Int)) = (S : Int) := by rw [IntWalk.i64_in _ (by omega)]; omega
        have hw6 : IntKind.u64.wrap (S : Int) = (S : Int) := wrap64u_in _ (by omega) (by omega)
        have Hw5 := Lib.hid hw5
        have Hw6 := Lib.hid hw6
        clear hP0 hPn hn2 hw5 hw6 HB HL1
        simp only []
        go_wp2_with fail
        with_reducible refine (HTw.out _ _ hxr.out).mono ?_
        rintro e w4 ⟨B1, rfl, hB1, hg4⟩
        simp only []
        go_wp2_with fail
        have hbx := heap_alloc_new w4 (.cells #[.string ⟨B1⟩, .int .i64 (T : Nat)] 31)
        have hg4b : Hid (w4.grownBy (w4.alloc (.cells #[.string ⟨B1⟩, .int .i64 (T : Nat)] 31)) none) := World.grownBy_alloc w4 _ none
        generalize w4.alloc (.cells #[.string ⟨B1⟩, .int .i64 (T : Nat)] 31) = w4b at hbx hg4b ⊢
        obtain ⟨bx, hbxe⟩ : ∃ bx, bx = w4.heap.size := ⟨_, rfl⟩
        rw [← hbxe] at hbx ⊢
        have Hbxe : Hid (w.heap.size ≤ bx) := by
          show _ ≤ _
          rw [hbxe]
          exact (grown_trans hg.out (grown_trans hg3.out hg4.out)).size
        have Hbr : Hid (wr.heap.size ≤ bx) := by
          show _ ≤ _
          rw [hbxe]
          exact (grown_trans hg3.out hg4.out).size
        have Hbx := Lib.hid hbx
        clear hbx hbxe
        have hgb : Hid (wr.grownBy w4b none) := grown_trans hg3.out (grown_trans hg4.out hg4b.out)
        with_reducible refine (HCw.out _ _ _ B1 (hxr.out.grown (grown_trans hg4.out hg4b.out)) (HNS.out.grown hgb.out) hB1.out).mono ?_
        rintro e w5 ⟨B2, rfl, hB2, hg5⟩
        obtain ⟨a1, a2, a3, a4, a5⟩ := cells2 Hbx.out hg5.out (by simp)
        simp only []
        go_wp2_with fail
        have hts := two_cells w5 bx _ _ (.string ⟨B2⟩) (.int .i64 (n2 : Nat)) _ a1
        have hgw6 : Hid (wr.grownBy ((w5.setCell ⟨bx, 0, none⟩ (.string ⟨B2⟩)).setCell ⟨bx, 1, none⟩ (.int .i64 (n2 : Nat))) none) := by
          have h1 := grown_trans hgb.out hg5.out
          exact grown_bel ((bel_grown h1 (Nat.le_refl _)).trans (below_grown hts.2 Hbr.out h1.size)) none
        have Hrow := Lib.hid hts.1
        clear hts a1 a2 a3 a4 a5
        generalize ((w5.setCell ⟨bx, 0, none⟩ (.string ⟨B2⟩)).setCell ⟨bx, 1, none⟩ (.int .i64 (n2 : Nat))) = w6 at Hrow hgw6 ⊢
        with_reducible refine (HRd.out _ B2 tE vE ((grown_trans hg.out hgw6.out).cell HE.out (by simp)) hB2.out).mono ?_
        rintro e w7 ⟨u, rfl, hgot, hg7⟩
        have hgw7 : Hid (wr.grownBy w7 none) := grown_trans hgw6.out hg7.out
        have Hbox : Hid (∀ W, w7.grownBy W none → W.cell? ⟨bx, 0, none⟩ = some (.string ⟨B2⟩) ∧ W.cell? ⟨bx, 1, none⟩ = some (.int .i64 (n2 : Nat))) := fun W hW => by
          obtain ⟨_, h1, h2, _, _⟩ := cells2 Hrow.out (grown_trans hg7.out hW) (by simp)
          exact ⟨h1, h2⟩
        clear hgw6 Hrow hg7
        simp only []
        go_wp2_with fail
        obtain ⟨wo, rfl⟩ : ∃ wo : World, wo = wr := ⟨_, rfl⟩
        go_loopw [13, 93] (fun atv iv wq => ∃ (j q : Nat), iv = .int .i64 (j : Nat) ∧ j ≤ n0 ∧ atv = .int .i64 (q : Nat) ∧ Hid (q = P j) ∧ Hid (w7.grownBy wq none)) (fun _ iv _ => n0 - (intOf iv).toNat)
        case atStart => exact ⟨0, T, rfl, Nat.zero_le _, rfl, HP0.out.symm, grown_self _ _⟩
        case round =>
          obtain ⟨j, q, rfl, hj, rfl, Hq, hgq⟩ := hrel
          have hgr : Hid (wo.grownBy _ none) := grown_trans hgw7.out hgq.out
          obtain ⟨b0, b1⟩ := Hbox.out _ hgq.out
          by_cases hlt : j < n0
          · obtain ⟨ad, x, rfl, c1, hxm, hLj⟩ := HV.out _ hgr.out j hlt
            have HR1 := Lib.hid (HCr.out _ B2 u j x hLj (hgot.out.grown hgq.out) hB2.out)
            rw [← Hq.out] at HR1
            have hji : (j : Int) < (n0 : Int) := by omega
            clear hxm hLj
            go_wp2_with fail
            with_reducible refine HR1.out.mono ?_
            rintro e w9 ⟨rfl, hg9⟩
            simp only []
            go_wp2_with fail
            exact ⟨⟨j + 1, P (j + 1), by rw [Int.natCast_add]; rfl, by omega, rfl, rfl, grown_trans hgq.out hg9.out⟩, by simp [intOf]; omega⟩
          · obtain rfl : j = n0 := by omega
            have hqn : q = n2 := by rw [Hq.out, HPn.out]
            subst hqn
            have HC1 := Lib.hid (HCo.out _ _ u (HNW.out.grown hgr.out) (hgot.out.grown hgq.out))
            have HS1 := Lib.hid (HSz.out _ u (hgot.out.grown hgq.out))
            clear b0 b1
            go_wp2_with fail
            with_reducible refine HC1.out.mono ?_
            rintro e w9 ⟨rfl, hw9⟩
            obtain rfl : wr = w9 := hw9.symm
            simp only []
            go_wp2_with fail
            with_reducible refine HS1.out.mono ?_
            rintro e w10 ⟨rfl, hg10⟩
            obtain ⟨b0, b1⟩ := Hbox.out _ (grown_trans hgq.out hg10.out)
            have hw5 := Hw5.out
            have hw6 := Hw6.out
            simp only []
            go_wp2_with fail
            go_ret
            exact ⟨rfl, bel_grown (grown_trans hg.out (grown_trans hgr.out hg10.out)) (Nat.le_refl _)⟩
end Go.Proofs.YtidmmcgnghdfdaaDoor
