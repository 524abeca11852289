/- What bits' Writer does in memory: Len tells how many bits it has, Bits hands them out as right bits. -/
import Derived.Test.YtihohljhjdmamaaGreatBits2
import Derived.Deep.RegionWith
import Derived.Deep.RegionLawGrows
namespace Go.Proofs.YtihohljhjdmamaaGreat
open Go.RowKit BitsPlain
set_option linter.unusedVariables false

theorem WriterAt.shape {w : World} {B b : Nat} {o : List UInt8} {r : List Bool} {v : Value} (h : WriterAt w B b o r v) : ∃ ao cap, v = .slice ao o.length cap ∧ o.length ≤ cap ∧ (ao = none → o = [] ∧ cap = 0) ∧ (∀ a, ao = some a → ∃ g, a = ⟨g, 0, none⟩ ∧ B ≤ g ∧ ∀ j u, (bcells o)[j]? = some u → w.cell? ⟨g, j, none⟩ = some u) := by
  rcases h.own.shape with ⟨h1, h2⟩ | ⟨g, cap, h1, h2, h3, h4, _⟩
  · have : o = [] := by simpa [bcells] using h2
    subst this
    exact ⟨none, 0, h1, Nat.le_refl _, fun _ => ⟨rfl, rfl⟩, fun a e => (by cases e)⟩
  · rw [bcells_length] at h1 h4
    refine ⟨some ⟨g, 0, none⟩, cap, h1, h4, fun e => (by cases e), fun a e => ?_⟩
    injection e with e
    subst e
    refine ⟨g, rfl, h2, fun j u hj => ?_⟩
    have hlt : j < (bcells o).length := (List.getElem?_eq_some_iff.1 hj).1
    have := h.own
    rw [h1] at this
    rw [this.cell j hlt, ← hj, List.getElem?_eq_getElem hlt]

set_option maxRecDepth 100000 in
set_option maxHeartbeats 1000000 in
theorem len_any (B b : Nat) (o : List UInt8) (r : List Bool) (v : Value) (w : World) (h : WriterAt w B b o r v) (hl : 8 * o.length ≤ 1073741824) :
    Calls Tryz.prog 56 #[.pointer (some ⟨b, 0, none⟩)] w fun e w' => e = .returned (.int .i64 ((8 * o.length + r.length : Nat) : Int)) ∧ ∃ n, w' = w.drewN n := by
  obtain ⟨ao, cap, hv, _⟩ := h.shape
  have hr8 := h.hr
  have hb := h.blk
  rw [hv] at hb
  have c0 : w.cell? ⟨b, 0, none⟩ = some (.slice ao o.length cap) := by rw [cell_of_row _ _ _ _ _ _ hb]; rfl
  have c2 : w.cell? ⟨b, 2, none⟩ = some (.int .i64 (r.length : Nat)) := by rw [cell_of_row _ _ _ _ _ _ hb]; rfl
  clear hb hv h
  have hw1 : IntKind.i64.wrap ((o.length : Int) * 8) = (o.length : Int) * 8 := IntWalk.i64_in _ (by omega)
  have hw2 : IntKind.i64.wrap ((o.length : Int) * 8 + (r.length : Int)) = (o.length : Int) * 8 + (r.length : Int) := IntWalk.i64_in _ (by omega)
  go_enter Tryz.func56, Tryz.ntmps56
  go_wp2_with fail
  go_quiet (fail)
  go_wp2_with fail
  go_ret
  refine ⟨ret_int ?_, nq, rfl⟩
  omega

theorem owns_lower {w : World} {B B' : Nat} {e : TypeId} {size : Nat} {v : Value} {n : Nat} {xs : List Value} (h : w.ownsRow B e size v n xs) (hB : B' ≤ B) : w.ownsRow B' e size v n xs := by
  rcases h with ⟨h1, h2 | ⟨g, cap, cur, h2, h3, h4⟩⟩
  · exact ⟨h1, .inl h2⟩
  · exact ⟨h1, .inr ⟨g, cap, cur, h2, Nat.le_trans hB h3, h4⟩⟩
theorem new_cell (W : World) (x : Value) (t : TypeId) (j : Nat) (u : Value) (hj : [x][j]? = some u) : (W.alloc (.cells #[x] t)).drew.cell? ((⟨W.heap.size, 0, none⟩ : Addr).add j) = some u := by
  match j, hj with
  | 0, hj =>
    simp at hj; subst hj
    have := heap_alloc_new W (.cells #[x] t)
    rw [add_plain]
    show (W.alloc (.cells #[x] t)).cell? _ = _
    rw [cell_of_row _ _ _ _ _ _ this]; rfl
theorem cells2 {w w3 : World} {b : Nat} {x y : Value} {t : TypeId} {q : Option Nat} (hb : w.heap[b]? = some (.cells #[x, y] t (0, 0))) (hg : w.grownBy w3 q) (hq : q ≠ some b) :
    w3.heap[b]? = some (.cells #[x, y] t (0, 0)) ∧ w3.cell? ⟨b, 0, none⟩ = some x ∧ w3.cell? ⟨b, 1, none⟩ = some y ∧ w3.frozen? ⟨b, 0, none⟩ = false ∧ w3.frozen? ⟨b, 1, none⟩ = false := by
  have h := (hg.block b (Array.getElem?_eq_some_iff.1 hb).1 (fun e => hq e.symm)).trans hb
  refine ⟨h, ?_, ?_, frozen_of_row _ _ _ _ _ h, frozen_of_row _ _ _ _ _ h⟩ <;> (rw [cell_of_row _ _ _ _ _ _ h]; rfl)
theorem two_cells (w : World) (b : Nat) (x y x' y' : Value) (t : TypeId) (hb : w.heap[b]? = some (.cells #[x, y] t (0, 0))) :
    ((w.setCell ⟨b, 0, none⟩ x').setCell ⟨b, 1, none⟩ y').heap[b]? = some (.cells #[x', y'] t (0, 0)) ∧ w.grownBy ((w.setCell ⟨b, 0, none⟩ x').setCell ⟨b, 1, none⟩ y') (some b) := by
  constructor
  · have h1 := heap_setCell_same w b 0 _ t x' hb
    have h2 := heap_setCell_same _ b 1 _ t y' h1
    rw [h2]; rfl
  · exact grown_trans (grown_setCell w ⟨b, 0, none⟩ x') (grown_setCell _ ⟨b, 1, none⟩ y')
/-- l's cells lie there -/
def BytesAt (W : World) (ao : Option Addr) (l : List UInt8) : Prop := ∀ a, ao = some a → ∃ g, a = ⟨g, 0, none⟩ ∧ ∀ j u, (bcells l)[j]? = some u → W.cell? ⟨g, j, none⟩ = some u
theorem BytesAt.kept {W W' : World} {ao : Option Addr} {l : List UInt8} (h : BytesAt W ao l) (hg : W.grownBy W' none) : BytesAt W' ao l := by
  intro a e
  obtain ⟨g, h1, h2⟩ := h a e
  exact ⟨g, h1, fun j u hj => hg.cell (h2 j u hj) (by simp)⟩
theorem WriterAt.grown {w w' : World} {B b : Nat} {o : List UInt8} {r : List Bool} {v : Value} (h : WriterAt w B b o r v) (hg : w.grownBy w' none) : WriterAt w' B b o r v :=
  ⟨h.hB, h.hr, (hg.block b (Array.getElem?_eq_some_iff.1 h.blk).1 (by simp)).trans h.blk, h.own.kept hg (fun k e => by cases e)⟩
theorem BytesAt.of_owns {W : World} {B g n cap : Nat} {l : List UInt8} (h : Owns W B 5 (.slice (some ⟨g, 0, none⟩) n cap) (bcells l)) : BytesAt W (some ⟨g, 0, none⟩) l := by
  intro a e
  injection e with e
  subst e
  refine ⟨g, rfl, fun j u hj => ?_⟩
  have hlt : j < (bcells l).length := (List.getElem?_eq_some_iff.1 hj).1
  rw [h.cell j hlt, ← hj, List.getElem?_eq_getElem hlt]
theorem BytesAt.drew {W : World} {ao : Option Addr} {l : List UInt8} (h : BytesAt W ao l) : BytesAt W.drew ao l := h
theorem run_conv {W : World} {ao : Option Addr} {l : List UInt8} {cap : Nat} (hnil : ao = none → l = [] ∧ cap = 0) (h : BytesAt W ao l) :
    Sem.run Tryz.prog (convert 81 9 (.slice ao l.length cap)) W = .ok (.string ⟨l.toArray⟩) W := by
  match ao, hnil, h with
  | none, hnil, _ =>
    obtain ⟨rfl, rfl⟩ := hnil rfl
    refine (run_convert_bytes_string W 81 9 5 _ 0 0 Tryz.underlying81 Tryz.underlying5 Tryz.underlying9).trans ?_
    simp [Conv.bytesToString, ByteArray.empty, ByteArray.emptyWithCapacity]
    rfl
  | some a, _, h =>
    obtain ⟨g, rfl, h2⟩ := h a rfl
    exact run_convert_bytes_back (P := Tryz.prog) W 81 9 5 ⟨g, 0, none⟩ cap l Tryz.underlying81 Tryz.underlying5 Tryz.underlying9 (fun j hj => by
      rw [add_plain, Nat.zero_add]
      exact h2 j _ (by rw [bcells_getElem?, List.getElem?_eq_getElem hj]; rfl))

set_option maxRecDepth 100000 in
set_option maxHeartbeats 2000000 in
theorem bits_any (B b : Nat) (o : List UInt8) (r : List Bool) (v : Value) (w : World) (h : WriterAt w B b o r v) (hl : 8 * o.length ≤ 1073741824) :
    Calls Tryz.prog 34 #[.pointer (some ⟨b, 0, none⟩)] w fun e w' => ∃ B', IsBits B' (unpack o ++ r) ∧ e = .returned (.agg #[.string ⟨B'.toArray⟩, .int .i64 ((8 * o.length + r.length : Nat) : Int)]) ∧ Below w.heap.size w w' := by
  obtain ⟨ao, cap, hv, hoc, hnil, hsome⟩ := h.shape
  have hr8 := h.hr
  have hb := h.blk
  have hblt : b < w.heap.size := (Array.getElem?_eq_some_iff.1 hb).1
  have HS : Hid ((Tryz.prog.info? 46).map (·.size) = some 2) := Lib.hid (by kernel_rfl)
  rw [hv] at hb
  have c0 : w.cell? ⟨b, 0, none⟩ = some (.slice ao o.length cap) := by rw [cell_of_row _ _ _ _ _ _ hb]; rfl
  have c1 : w.cell? ⟨b, 1, none⟩ = some (.int .u64 (nat r : Nat)) := by rw [cell_of_row _ _ _ _ _ _ hb]; rfl
  have c2 : w.cell? ⟨b, 2, none⟩ = some (.int .i64 (r.length : Nat)) := by rw [cell_of_row _ _ _ _ _ _ hb]; rfl
  have Hh := Lib.hid h
  have Hbw : Hid (BytesAt w ao o) := by
    intro a e
    obtain ⟨g, h1, _, h3⟩ := hsome a e
    exact ⟨g, h1, h3⟩
  clear hb hv h hsome
  obtain ⟨R, hR⟩ : ∃ R : Nat, R = r.length := ⟨_, rfl⟩
  go_enter Tryz.func34, Tryz.ntmps34
  by_cases h0 : r.length = 0
  · have h0' : ((r.length : Int)) ≤ 0 := by omega
    have hcv : ∀ W, BytesAt W ao o → Sem.run Tryz.prog (convert 81 9 (.slice ao o.length cap)) W = .ok (.string ⟨o.toArray⟩) W := fun W hW => run_conv hnil hW
    clear hnil
    go_wp2_with fail
    obtain ⟨W, hW⟩ : ∃ W, w.alloc (.cells #[.string ⟨#[]⟩, .int .i64 0] 46) = W := ⟨_, rfl⟩
    have hgW : w.grownBy W none := by rw [← hW]; exact World.grownBy_alloc w _ _
    have hres : W.heap[w.heap.size]? = some (.cells #[.string ⟨#[]⟩, .int .i64 0] 46 (0, 0)) := by rw [← hW]; exact heap_alloc_new w _
    rw [hW]
    clear hW
    have hba : BytesAt W ao o := Hbw.out.kept hgW
    have hba1 : BytesAt W.drew ao o := hba
    have hwr : WriterAt W.drew B b o r v := Hh.out.grown (grown_trans hgW (grown_drew W none))
    have HL := Lib.hid (len_any B b o r v W.drew hwr hl)
    have HG := Lib.hid hgW
    clear hwr Hh hgW hr8 c0 c1 c2
    obtain ⟨d20, d21, d22, d23, d24⟩ := cells2 hres (grown_drew W none) (by simp)
    go_region_with (go_at_call 56; refine HL.out.mono ?_; rintro e w1 ⟨rfl, n, hn⟩; have hba2 : BytesAt w1 ao o := (by rw [hn]; exact hba1.kept (grown_drewN W.drew n none)); obtain ⟨e20, e21, e22, e23, e24⟩ := cells2 hres (show W.grownBy w1 none by rw [hn]; exact grown_trans (grown_drew W none) (grown_drewN _ n none)) (by simp); have HN := Lib.hid hn; clear hn)
    all_goals
      have hts := two_cells w1 w.heap.size _ _ (.string ⟨(o).toArray⟩) (.int .i64 (((8 * o.length + r.length : Nat) : Int))) _ e20
      have hbl : Below w.heap.size w w1 := (Below.refl _ w).grown (grown_trans HG.out (by rw [HN.out]; exact grown_trans (grown_drew W none) (grown_drewN _ _ none))) (Nat.le_refl _) (fun k e => by cases e)
      have hbl2 := Lib.hid (hbl.trans (below_grown hts.2 (Nat.le_refl _) hbl.size))
      have hrow := Lib.hid hts.1
      clear hts hbl hba2 e20 e21 e22 e23 e24 HN d20 d21 d22 d23 d24 hba1 hba hcv
      simp only [h0, Nat.add_zero, Int.natCast_mul, Int.cast_ofNat_Int] at hrow hbl2 ⊢
      generalize ((w1.setCell ⟨w.heap.size, 0, none⟩ (.string ⟨(o).toArray⟩)).setCell ⟨w.heap.size, 1, none⟩ (.int .i64 (8 * (o.length : Int)))) = w2 at hbl2 hrow ⊢
      go_wp2_with fail
      refine bodyPost_ret (results_cell_row rfl _ _ w.heap.size 46 _ _ _ rfl hrow.out Tryz.underlying46 rfl HS.out) rfl ?_
      refine ⟨o, (by have e : r = [] := List.length_eq_zero_iff.1 h0; rw [e, List.append_nil]; exact IsBits.bytes o), ?_, hbl2.out⟩
      rw [show (8 * (o.length : Int) : Int) = ((8 * o.length + r.length : Nat) : Int) by omega]
  · have h0' : 0 < ((r.length : Int)) := by omega
    clear h0'
    obtain ⟨s, hs⟩ : ∃ s : Nat, r.length + s = 8 := ⟨8 - r.length, by omega⟩
    have hs1 : 8 - ((r.length : Int)) = (s : Int) := by omega
    have hs2 : IntKind.i64.wrap (s : Int) = (s : Int) := IntWalk.i64_in _ (by omega)
    have hs3 : ¬ ((s : Int) < 0) := by omega
    have hs4 : (s : Int) < 64 := by omega
    have hpw : (2 : Nat) ^ r.length * 2 ^ s = 256 := by rw [← Nat.pow_add, hs]
    have hn1 := nat_lt r
    have hn2 : nat r * 2 ^ s < 256 := by rw [← hpw]; exact Nat.mul_lt_mul_of_pos_right hn1 (Nat.pow_pos (by decide))
    have hsh : IntKind.u64.wrap (((nat r : Nat) : Int) * (2 : Int) ^ s) = ((nat r * 2 ^ s : Nat) : Int) := by
      rw [cast_pow, ← Int.natCast_mul, wrap64u_in _ (by omega) (by omega)]
    have hs8 : IntKind.u8.wrap ((nat r * 2 ^ s : Nat) : Int) = ((nat r * 2 ^ s : Nat) : Int) := by rw [IntKind.wrap_u8]; omega
    have hbyte : (Value.int .u8 ((nat r * 2 ^ s : Nat) : Int)) = .int .u8 ((UInt8.ofNat (nat r * 2 ^ (8 - r.length))).toNat : Int) := by
      rw [show 8 - r.length = s by omega, UInt8.toNat_ofNat', Nat.mod_eq_of_lt hn2]
    obtain ⟨y, hy⟩ : ∃ y, y = nat r * 2 ^ s := ⟨_, rfl⟩
    obtain ⟨n0, hn0⟩ : ∃ n0, n0 = nat r := ⟨_, rfl⟩
    rw [← hy] at hsh hs8 hbyte
    rw [← hn0] at c1 hsh
    have hfin := finish o r (by omega) hr8
    have hr0 : 0 < r.length := by omega
    have Hby := Lib.hid hbyte
    have Hfin := Lib.hid hfin
    have Hnil := Lib.hid hnil
    clear hn1 hn2 hpw hy hn0 hs hbyte hfin hnil
    go_wp2_with fail
    obtain ⟨W, hW⟩ : ∃ W, w.alloc (.cells #[.string ⟨#[]⟩, .int .i64 0] 46) = W := ⟨_, rfl⟩
    have hgW : w.grownBy W none := by rw [← hW]; exact World.grownBy_alloc w _ _
    have hres : W.heap[w.heap.size]? = some (.cells #[.string ⟨#[]⟩, .int .i64 0] 46 (0, 0)) := by rw [← hW]; exact heap_alloc_new w _
    rw [hW]
    clear hW
    have hba0 : BytesAt W ao o := Hbw.out.kept hgW
    have c1' : W.drew.cell? ⟨b, 1, none⟩ = some (.int .u64 n0) := (grown_trans hgW (grown_drew W none)).cell c1 (by simp)
    have c2' : W.drew.cell? ⟨b, 2, none⟩ = some (.int .i64 (r.length : Nat)) := (grown_trans hgW (grown_drew W none)).cell c2 (by simp)
    clear c0 c1 c2
    obtain ⟨ie, hie, hz0, hz1, hz2⟩ := info_parts elemBytes.info
    have HIE := Lib.hid hie
    have HZ := Lib.hid (And.intro hz0 (And.intro hz1 hz2))
    clear hie hz0 hz1 hz2
    have HG := Lib.hid hgW
    have Hres := Lib.hid hres
    have Hba0 := Lib.hid hba0
    clear hgW hres hba0
    go_region_law (refine step_append_grows rfl (.tmp 18) (.tmp 30) 81 rfl 5 ie (.int .u8 0) 1 1 Tryz.underlying81 HIE.out HZ.out.1 HZ.out.2.1 HZ.out.2.2 rfl (by decide) ao o.length o.length (bcells o) rfl (fun e => ⟨by rw [(Hnil.out e).1]; rfl, by rw [(Hnil.out e).1]; rfl⟩) (by rw [bcells_length, Nat.mul_one]) ?_ ⟨W.heap.size, 0, none⟩ 1 1 [.int .u8 (y : Int)] rfl rfl ?_ ?_ (Nat.lt_succ_self _) (by unfold maxLen; omega) (by omega) ?_; intro bb hbb j u hj; obtain ⟨g, hg1, hg2⟩ := Hba0.out bb hbb; rw [hg1, add_plain, Nat.zero_add]; exact (grown_trans (World.grownBy_alloc W _ none) (grown_drew _ none)).cell (hg2 j u hj) (by simp); intro j u hj; exact new_cell W _ _ j u hj; intro u hu; rw [List.mem_singleton.1 hu]; rfl; intro v' w2 hown hgr)
    all_goals
      have hO : Owns w2 w.heap.size 5 v' (bcells (o ++ [UInt8.ofNat (nat r * 2 ^ (8 - r.length))])) := by
        have e : bcells (o ++ [UInt8.ofNat (nat r * 2 ^ (8 - r.length))]) = bcells o ++ [.int .u8 (y : Int)] := by rw [bcells_append, Hby.out]; rfl
        rw [e]
        have h1 : (bcells o ++ [Value.int .u8 (y : Int)]).length = o.length + 1 := by rw [List.length_append, bcells_length]; rfl
        unfold Owns
        rw [h1]
        exact owns_lower hown (Nat.le_trans HG.out.size (by show _ ≤ (W.heap.push _).size; rw [Array.size_push]; omega))
      have hgW : w.grownBy w2 none := grown_trans HG.out (grown_trans (grown_trans (World.grownBy_alloc W _ none) (grown_drew _ none)) hgr)
      have hres : w2.heap[w.heap.size]? = some (.cells #[.string ⟨#[]⟩, .int .i64 0] 46 (0, 0)) := by
        have h1 := (grown_trans (grown_trans (World.grownBy_alloc W (.cells #[.int .u8 (y : Int)] 5) none) (grown_drew _ none)) hgr).block w.heap.size (Array.getElem?_eq_some_iff.1 Hres.out).1 (by simp)
        exact h1.trans Hres.out
      obtain ⟨g, cap2, hv2⟩ : ∃ g cap2, v' = .slice (some ⟨g, 0, none⟩) (o.length + 1) cap2 := by
        rcases hO.shape with ⟨_, h2⟩ | ⟨g, cap2, h2, _⟩
        · simp [bcells] at h2
        · exact ⟨g, cap2, by rw [h2, bcells_length, List.length_append]; rfl⟩
      clear hown hgr c1' c2' hs1 hs2 hs3 hs4 hs8 hsh
      subst hv2
      have hba : BytesAt w2 (some ⟨g, 0, none⟩) (o ++ [UInt8.ofNat (nat r * 2 ^ (8 - r.length))]) := BytesAt.of_owns hO
      clear hO
      have hcv : ∀ W, BytesAt W (some ⟨g, 0, none⟩) (o ++ [UInt8.ofNat (nat r * 2 ^ (8 - r.length))]) → Sem.run Tryz.prog (convert 81 9 (.slice (some ⟨g, 0, none⟩) (o.length + 1) cap2)) W = .ok (.string ⟨(o ++ [UInt8.ofNat (nat r * 2 ^ (8 - r.length))]).toArray⟩) W := by
        intro W hW
        have := run_conv (cap := cap2) (fun e => by cases e) hW
        rwa [List.length_append] at this
      have c0 := hres
      have c1 := hres
      have c2 := hres
      obtain ⟨O, hOe⟩ : ∃ O, O = o ++ [UInt8.ofNat (nat r * 2 ^ (8 - r.length))] := ⟨_, rfl⟩
      rw [← hOe] at hcv hba
      have HOe := Lib.hid hOe
      clear hOe
      go_wp2_with fail
      have hba1 : BytesAt w2.drew (some ⟨g, 0, none⟩) O := hba
      have hwr : WriterAt w2.drew B b o r v := Hh.out.grown (grown_trans hgW (grown_drew w2 none))
      have HL := Lib.hid (len_any B b o r v w2.drew hwr hl)
      have HG := Lib.hid hgW
      clear hwr Hh hgW hr8 c0 c1 c2
      obtain ⟨d20, d21, d22, d23, d24⟩ := cells2 hres (grown_drew w2 none) (by simp)
      go_region_with (go_at_call 56; refine HL.out.mono ?_; rintro e w1 ⟨rfl, n, hn⟩; have hba2 : BytesAt w1 (some ⟨g, 0, none⟩) O := (by rw [hn]; exact hba1.kept (grown_drewN w2.drew n none)); obtain ⟨e20, e21, e22, e23, e24⟩ := cells2 hres (show w2.grownBy w1 none by rw [hn]; exact grown_trans (grown_drew w2 none) (grown_drewN _ n none)) (by simp); have HN := Lib.hid hn; clear hn)
      all_goals
        have hts := two_cells w1 w.heap.size _ _ (.string ⟨(O).toArray⟩) (.int .i64 (((8 * o.length + r.length : Nat) : Int))) _ e20
        have hbl : Below w.heap.size w w1 := (Below.refl _ w).grown (grown_trans HG.out (by rw [HN.out]; exact grown_trans (grown_drew w2 none) (grown_drewN _ _ none))) (Nat.le_refl _) (fun k e => by cases e)
        have hbl2 := Lib.hid (hbl.trans (below_grown hts.2 (Nat.le_refl _) hbl.size))
        have hrow := Lib.hid hts.1
        clear hts hbl hba2 e20 e21 e22 e23 e24 HN d20 d21 d22 d23 d24 hba1 hba hcv
        simp only [Int.natCast_add, Int.natCast_mul, Int.cast_ofNat_Int] at hrow hbl2 ⊢
        generalize ((w1.setCell ⟨w.heap.size, 0, none⟩ (.string ⟨(O).toArray⟩)).setCell ⟨w.heap.size, 1, none⟩ (.int .i64 (8 * (o.length : Int) + (r.length : Int)))) = w9 at hbl2 hrow ⊢
        go_wp2_with fail
        refine bodyPost_ret (results_cell_row rfl _ _ w.heap.size 46 _ _ _ rfl hrow.out Tryz.underlying46 rfl HS.out) rfl ?_
        refine ⟨O, (by rw [HOe.out]; exact Hfin.out), ?_, hbl2.out⟩
        rw [show (8 * (o.length : Int) + (r.length : Int) : Int) = ((8 * o.length + r.length : Nat) : Int) by omega]
end Go.Proofs.YtihohljhjdmamaaGreat
