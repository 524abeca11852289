/- A sort's plan. -/
import Derived.Test.YtiocmggnmggapaaCost13
import Derived.Test.YtiocmggnmggapaaCostLaw
namespace Go.Proofs.Ytiocmggnmggapaa
open Go.RowKit CostPlain
set_option linter.unusedVariables false

/-- a plan as a value -/
def planV (r p s : Nat) : Value := .agg #[.int .i64 (r : Nat), .int .i64 (p : Nat), .int .u64 (s : Nat)]
theorem plan_size : (Try.prog.info? 28).map (·.size) = some 3 := by kernel_rfl
theorem scs_take {wd : Int} {l : List Nat} {i : Nat} (h : i < l.length) : scs wd (l.take (i + 1)) = scs wd (l.take i) + ndN wd (l.getD i 0) := by
  rw [List.take_succ_eq_append_getElem h, scs_append]; simp [scs, List.getD, h]
theorem Owns.num {w : World} {B : Nat} {a : Option Addr} {cap : Nat} {l : List Nat} (h : Owns w B 22 (.slice a l.length cap) (ncells l)) {i : Nat} (hi : i < l.length) : ∃ g, a = some ⟨g, 0, none⟩ ∧ w.cell? ⟨g, i, none⟩ = some (.int .u64 (l.getD i 0 : Nat)) := by
  rcases h.shape with ⟨_, h2⟩ | ⟨g, cap', h1, _⟩
  · have := congrArg List.length h2; rw [ncells_length, List.length_nil] at this; omega
  · injection h1 with h1 h2 h3
    subst h1 h3
    refine ⟨g, rfl, ?_⟩
    rw [h.cell i (by rw [ncells_length]; exact hi)]
    simp [ncells, List.getD, hi]

theorem files_x64 {b wd : Int} {c : Nat} (h : mnC b wd c = 0) : ∀ x ∈ (files b wd c).flatten, x ≤ 65536 := by
  intro x hx
  obtain ⟨l, hl, hxl⟩ := List.mem_flatten.1 hx
  obtain ⟨j, hj, rfl⟩ := List.getElem_of_mem hl
  have h1 := ((files_all h).2.2.2.2 j hj).1
  rw [show (files b wd c).getD j [] = (files b wd c)[j] by simp [List.getD, hj]] at h1
  have h2 := le_sum hxl
  have h3 := (mnN_ok h).2.1
  omega
theorem row_put3 {w : World} {b : Nat} {x y z : Value} {t : TypeId} (x' y' z' : Value) (hb : w.heap[b]? = some (.cells #[x, y, z] t (0, 0))) :
    (((w.setCell ⟨b, 0, none⟩ x').setCell ⟨b, 1, none⟩ y').setCell ⟨b, 2, none⟩ z').heap[b]? = some (.cells #[x', y', z'] t (0, 0)) ∧ w.grownBy (((w.setCell ⟨b, 0, none⟩ x').setCell ⟨b, 1, none⟩ y').setCell ⟨b, 2, none⟩ z') (some b) := by
  refine ⟨?_, grown_trans (grown_trans (grown_setCell w ⟨b, 0, none⟩ x') (grown_setCell _ ⟨b, 1, none⟩ y')) (grown_setCell _ ⟨b, 2, none⟩ z')⟩
  have h1 := heap_setCell_same w b 0 _ t x' hb
  have h2 := heap_setCell_same _ b 1 _ t y' h1
  exact heap_setCell_same _ b 2 _ t z' h2
/-- one's own block does not count -/
theorem grown_own {w w1 w2 : World} {b : Nat} (h : w.grownBy w1 none) (h2 : w1.grownBy w2 (some b)) (hb : w.heap.size ≤ b) : w.grownBy w2 none :=
  grown_bel ((bel_grown h (Nat.le_refl _)).grown h2 h.size (fun q e => by injection e with e; omega)) none

set_option maxRecDepth 100000 in
set_option maxHeartbeats 8000000 in
theorem sort_any (b wd : Int) (c : Nat) (hc : c < 18446744073709551616) (w : World) :
    Calls Try.prog 11 #[.int .i64 b, .int .i64 wd, .int .u64 (c : Nat)] w fun e w' => e = .returned (.tuple #[planV (mnN b wd c) ((files b wd c).length - 1) (sec wd (files b wd c)), .int .i64 (mnC b wd c)]) ∧ Hid (w.grownBy w' none) := by
  have HF := Lib.hid (fun w => files_any b wd c hc w)
  have HS := Lib.hid plan_size
  have hg0 := Lib.hid (World.grownBy_alloc w (.cells #[.int .i64 0, .int .i64 0, .int .u64 0] 28) none)
  have hf0 := Lib.hid (heap_alloc_new w (.cells #[.int .i64 0, .int .i64 0, .int .u64 0] 28))
  by_cases h : mnC b wd c = 0
  · obtain ⟨f1, f2, f3, f4, f5⟩ := files_all h
    have HF' := HF.out
    rw [h] at HF' ⊢
    obtain ⟨r, hr⟩ : ∃ r, r = mnN b wd c := ⟨_, rfl⟩
    rw [← hr] at f2 ⊢
    obtain ⟨ls, hls⟩ : ∃ ls, ls = files b wd c := ⟨_, rfl⟩
    rw [← hls] at HF' f1 f2 ⊢
    obtain ⟨N, hN⟩ : ∃ N, ls.length = N := ⟨_, rfl⟩
    rw [hN] at f1 ⊢
    have HF2 := Lib.hid HF'
    have HNd := Lib.hid (fun (x : Nat) (hx : x < 18446744073709551616) w => need_any wd x hx w)
    have HN := Lib.hid hN
    have Hf2 := Lib.hid f2
    have hx64 : ∀ x ∈ ls.flatten, x ≤ 65536 := by rw [hls]; exact files_x64 h
    have Hx := Lib.hid hx64
    clear f2 f3 f4 f5 HF' hr hls h HF hN hx64
    go_enter Try.func11, Try.ntmps11
    go_wp2_with fail
    refine (HF2.out _).mono ?_
    rintro e w1 ⟨v, rfl, hv, hg1⟩
    simp only []
    rcases hv with ⟨_, h9⟩ | ⟨g, cap, vs, rfl, hcap, hlen, hcl, hnl⟩
    · have := HN.out; rw [h9] at this; simp at this; omega
    have c0 := hcl 0 (by rw [HN.out]; omega)
    obtain ⟨a0, cc0, e0, _⟩ := (hnl 0 (by rw [HN.out]; omega)).nums
    rw [e0, Hf2.out] at c0
    have HC := Lib.hid (fun W (hW : w1.grownBy W none) => concat_any g cap vs ls W hcap hlen (fun j hj => hW.cell (hcl j hj) (by simp)) (fun j hj => (hnl j hj).grown hW))
    have HN' := HN.out
    rw [HN'] at HC hcap hlen ⊢
    clear hcl hnl e0 HN'
    go_wp2_with fail
    have hf2 := heap_alloc_new w1 (.cells #[.int .i64 (r : Nat), .int .i64 ((N : Int) - 1), .int .u64 0] 28)
    have hg2 := World.grownBy_alloc w1 (.cells #[.int .i64 (r : Nat), .int .i64 ((N : Int) - 1), .int .u64 0] 28) none
    have hsz : w.heap.size + 1 ≤ w1.heap.size := by have := hg1.out.size; simpa using this
    have hsz2 : (w1.alloc (.cells #[.int .i64 (r : Nat), .int .i64 ((N : Int) - 1), .int .u64 0] 28)).heap.size = w1.heap.size + 1 := by simp
    refine (HC.out _ hg2).mono ?_
    rintro e w3 ⟨u, rfl, ho, hfl, hg3⟩
    simp only []
    rw [hsz2] at ho
    have r3 := row_kept hf2 hg3.out (by simp)
    have r0 := row_kept (row_kept (row_kept hf0.out hg1.out (by simp)) hg2 (by simp)) hg3.out (by simp)
    have hg4 := Lib.hid (grown_trans (grown_trans (grown_trans hg0.out hg1.out) hg2) hg3.out)
    have R0 := Lib.hid r0
    have hsz3 : Hid (w1.heap.size + 1 ≤ w3.heap.size) := by show _ ≤ _; rw [← hsz2]; exact hg3.out.size
    obtain ⟨G, hG⟩ : ∃ G, G = w1.heap.size := ⟨_, rfl⟩
    rw [← hG] at r3 hsz ho hsz3 ⊢
    have R3 : Hid (w3.heap[G]? = some (.cells #[.int .i64 (r : Nat), .int .i64 ((N : Int) - 1), .int .u64 (scs wd (ls.flatten.take 0) : Nat)] 28 (0, 0))) := r3
    have Hsz := Lib.hid hsz
    obtain ⟨L, hL⟩ : ∃ L, L = ls.flatten := ⟨_, rfl⟩
    rw [← hL] at ho hfl R3 Hx
    have HSec : Hid (sec wd ls = scs wd L) := by show _ = _; rw [hL]; rfl
    obtain ⟨au, cu, rfl, _⟩ := ho.form
    rw [ncells_length] at ho ⊢
    obtain ⟨n, hn⟩ : ∃ n, n = L.length := ⟨_, rfl⟩
    have HoN := Lib.hid (fun i (hi : i < L.length) => ho.num hi)
    have HoB := Lib.hid (fun g (e : au = some ⟨g, 0, none⟩) => (ho.block_lt g (by rw [e]; rfl)).1)
    rw [← hn] at HoN hfl ⊢
    have Hn := Lib.hid hn
    have Hscs : Hid (∀ i, i ≤ n → scs wd (L.take i) ≤ 175941188321280) := fun i hi => by
      refine Nat.le_trans (scs_le wd _) ?_
      rw [List.length_take]
      have : min i L.length ≤ 4295229440 := by omega
      omega
    clear r3 r0 hf2 hg2 hg3 hg0 hf0 hg1 hsz2 hL hn ho hG hsz HF2 HC c0
    go_wp2_with fail
    go_loopw [37] (fun iv wr => ∃ i : Nat, iv = .int .i64 (i : Nat) ∧ i ≤ n ∧ Hid (wr.heap[G]? = some (.cells #[.int .i64 (r : Nat), .int .i64 ((N : Int) - 1), .int .u64 (scs wd (L.take i) : Nat)] 28 (0, 0))) ∧ Hid (w3.grownBy wr (some G))) (fun iv _ => n - (intOf iv).toNat)
    case atStart => exact ⟨0, rfl, Nat.zero_le _, R3, grown_self _ _⟩
    case round =>
      clear R3
      obtain ⟨i, rfl, hi, hr, hg⟩ := hrel
      have hb := Hscs.out i hi
      obtain ⟨p0, p1, p2, p3, p4, p5⟩ := row3 hr.out
      by_cases hlt : i < n
      · obtain ⟨gu, rfl, cx⟩ := HoN.out i hlt
        have cx' := hg.out.cell cx (by intro e; injection e with e; have := HoB.out gu rfl; simp only at e; omega)
        have hx := Hx.out (L.getD i 0) (by simp [List.getD, show i < L.length by rw [← Hn.out]; exact hlt])
        have hst := scs_take (wd := wd) (l := L) (i := i) (by rw [← Hn.out]; exact hlt)
        have hb2 := Hscs.out (i + 1) (by omega)
        obtain ⟨x, hxe⟩ : ∃ x, x = L.getD i 0 := ⟨_, rfl⟩
        rw [← hxe] at cx' hx hst
        have HNx := Lib.hid (fun w => HNd.out x (by omega) w)
        have hd := ndN_le wd x
        obtain ⟨d, hde⟩ : ∃ d, d = ndN wd x := ⟨_, rfl⟩
        rw [← hde] at HNx hd hst
        obtain ⟨s, hse⟩ : ∃ s, s = scs wd (L.take i) := ⟨_, rfl⟩
        rw [← hse] at hr p2 hb hst
        rw [hst] at hb2
        have Hst := Lib.hid hst
        have hwd : IntKind.u64.wrap (d : Int) = (d : Int) := wrap64u_in _ (by omega) (by omega)
        have hw1 : IntKind.u64.wrap ((s : Int) + (d : Int)) = ((s + d : Nat) : Int) := by rw [Int.natCast_add]; exact wrap64u_in _ (by omega) (by omega)
        have hii : (i : Int) < (n : Int) := by omega
        clear cx hst hse hde hxe
        go_wp2_with (first
          | (go_at_call 25; refine (HNx.out wr).mono ?_; rintro e w5 ⟨rfl, hw5⟩; obtain rfl : wr = w5 := hw5.symm)
          | fail)
        refine ⟨⟨i + 1, by rw [Int.natCast_add]; rfl, by omega, ?_, grown_trans hg.out (grown_setCell wr ⟨G, 2, none⟩ _)⟩, by simp [intOf] <;> omega⟩
        show _ = _
        rw [Hst.out, heap_setCell_same _ G 2 _ _ _ hr.out]
        rfl
      · obtain rfl : i = n := by omega
        have e9 : L.take i = L := by rw [Hn.out]; exact List.take_length
        rw [e9] at hr p2
        obtain ⟨s, hse⟩ : ∃ s, s = scs wd L := ⟨_, rfl⟩
        rw [← hse] at hr p2
        have r0 := row_kept R0.out hg.out (by intro e; injection e with e; have := Hsz.out; omega)
        obtain ⟨q0, q1, q2, q3, q4, q5⟩ := row3 r0
        have HR := Lib.hid (row_put3 (.int .i64 (r : Nat)) (.int .i64 ((N : Int) - 1)) (.int .u64 (s : Nat)) r0)
        have hN1 : ((N - 1 : Nat) : Int) = (N : Int) - 1 := by omega
        have HN1 := Lib.hid hN1
        have Hse := Lib.hid hse
        clear e9 hse r0 hN1
        go_wp2_with fail
        refine bodyPost_ret (results_row_tmp (fn := Try.f11) (p := 6) (q := 7) (ty := 28) rfl _ _ w.heap.size 28 _ _ _ rfl HR.out.1 Try.underlying28 rfl HS.out) rfl ?_
        refine ⟨by unfold planV; rw [HN1.out, HSec.out, ← Hse.out]; rfl, grown_own (grown_own hg4.out hg.out (by have := Hsz.out; omega)) HR.out.2 (Nat.le_refl _)⟩
  · have e1 : files b wd c = [] := by unfold files; rw [if_neg h]
    have e2 : mnN b wd c = 0 := by unfold mnN; rw [if_neg h]
    rw [e1, e2]
    have hb : (mnC b wd c == 0) = false := by simpa using h
    have hb2 : (mnC b wd c != 0) = true := by simpa using h
    have HF2 := HF.out
    rw [e1] at HF2
    have HF3 := Lib.hid HF2
    clear HF HF2 e1 e2
    go_enter Try.func11, Try.ntmps11
    go_wp2_with fail
    refine (HF3.out _).mono ?_
    rintro e w1 ⟨v, rfl, hv, hg1⟩
    simp only []
    have r1 := row_kept hf0.out hg1.out (by simp)
    have HR := Lib.hid (row_put3 (.int .i64 0) (.int .i64 0) (.int .u64 0) r1)
    obtain ⟨q0, q1, q2, q3, q4, q5⟩ := row3 r1
    have hG1 := Lib.hid (grown_trans hg0.out hg1.out)
    clear r1 hg0 hf0 hg1
    go_wp2_with fail
    refine bodyPost_ret (results_row_tmp (fn := Try.f11) (p := 6) (q := 7) (ty := 28) rfl _ _ w.heap.size 28 _ _ _ rfl HR.out.1 Try.underlying28 rfl HS.out) rfl ?_
    exact ⟨rfl, grown_own hG1.out HR.out.2 (Nat.le_refl _)⟩
theorem cell_lt {w : World} {g j : Nat} {v : Value} (h : w.cell? ⟨g, j, none⟩ = some v) : g < w.heap.size := by
  rcases Nat.lt_or_ge g w.heap.size with h1 | h1
  · exact h1
  · simp [World.cell?, Array.getElem?_eq_none h1] at h
theorem NAt0.num {w : World} {a : Option Addr} {n c : Nat} {l : List Nat} (h : NAt0 w (.slice a n c) l) {i : Nat} (hi : i < l.length) : ∃ g, a = some ⟨g, 0, none⟩ ∧ w.cell? ⟨g, i, none⟩ = some (.int .u64 (l.getD i 0 : Nat)) := by
  rcases h with ⟨_, rfl⟩ | ⟨g, cap, h1, _, _, h4⟩
  · simp at hi
  · injection h1 with h1
    exact ⟨g, h1, by rw [h4 i hi]; simp [List.getD, hi]⟩
theorem sec_take {wd : Int} {ls : List (List Nat)} {i : Nat} (h : i < ls.length) : sec wd (ls.take (i + 1)) = sec wd (ls.take i) + scs wd (ls.getD i []) := by
  unfold sec
  rw [take_getD h, List.flatten_append, scs_append]; simp
theorem sec_le (wd : Int) (ls : List (List Nat)) (h : ∀ l ∈ ls, l.length ≤ 65536) (hl : ls.length ≤ 65540) (i : Nat) : sec wd (ls.take i) ≤ 175941188321280 := by
  unfold sec
  refine Nat.le_trans (scs_le wd _) ?_
  have h1 := flatten_len_le (ls.take i) (fun l hl => h l (List.mem_of_mem_take hl))
  have h2 : (ls.take i).length ≤ 65540 := by rw [List.length_take]; omega
  omega
theorem scs_mono (wd : Int) (l : List Nat) (j : Nat) : scs wd (l.take j) ≤ scs wd l := by
  have h := scs_append wd (l.take j) (l.drop j)
  rw [List.take_append_drop] at h
  omega

set_option maxRecDepth 100000 in
set_option maxHeartbeats 8000000 in
theorem rsort_any (b wd : Int) (c : Nat) (hc : c < 18446744073709551616) (w : World) :
    Calls Try.prog 12 #[.int .i64 b, .int .i64 wd, .int .u64 (c : Nat)] w fun e w' => e = .returned (.tuple #[planV (mnN b wd c) ((files b wd c).length - 1) (sec wd (files b wd c)), .int .i64 (mnC b wd c)]) ∧ Hid (w.grownBy w' none) := by
  have HF := Lib.hid (fun w => rfiles_any b wd c hc w)
  have HS := Lib.hid plan_size
  have hg0 := Lib.hid (World.grownBy_alloc w (.cells #[.int .i64 0, .int .i64 0, .int .u64 0] 28) none)
  have hf0 := Lib.hid (heap_alloc_new w (.cells #[.int .i64 0, .int .i64 0, .int .u64 0] 28))
  by_cases h : mnC b wd c = 0
  · obtain ⟨f1, f2, f3, f4, f5⟩ := files_all h
    have HF' := HF.out
    have hx64 := files_x64 h
    rw [h] at HF' ⊢
    obtain ⟨r, hr⟩ : ∃ r, r = mnN b wd c := ⟨_, rfl⟩
    rw [← hr] at f2 ⊢
    obtain ⟨ls, hls⟩ : ∃ ls, ls = files b wd c := ⟨_, rfl⟩
    rw [← hls] at HF' f1 f2 hx64 ⊢
    obtain ⟨N, hN⟩ : ∃ N, ls.length = N := ⟨_, rfl⟩
    rw [hN] at f1 ⊢
    have HF2 := Lib.hid HF'
    have HNd := Lib.hid (fun (x : Nat) (hx : x < 18446744073709551616) w => rneed_any wd x hx w)
    have HN := Lib.hid hN
    have Hf2 := Lib.hid f2
    have Hx := Lib.hid hx64
    clear f2 f3 f4 f5 HF' hr hls h HF hN hx64
    go_enter Try.func12, Try.ntmps12
    go_wp2_with fail
    refine (HF2.out _).mono ?_
    rintro e w1 ⟨v, rfl, hv, hg1⟩
    simp only []
    rcases hv with ⟨_, h9⟩ | ⟨g, cap, vs, rfl, hcap, hlen, hcl, hnl⟩
    · have := HN.out; rw [h9] at this; simp at this; omega
    have c0 := hcl 0 (by rw [HN.out]; omega)
    obtain ⟨a0, cc0, e0, _⟩ := (hnl 0 (by rw [HN.out]; omega)).nums
    rw [e0, Hf2.out] at c0
    have Hcl := Lib.hid hcl
    have Hnl := Lib.hid hnl
    have Hmem : Hid (∀ l ∈ ls, l.length ≤ 65536) := fun l hl => by
      obtain ⟨j, hj, rfl⟩ := List.getElem_of_mem hl
      have := (Hnl.out j hj).len
      rwa [show ls.getD j [] = ls[j] by simp [List.getD, hj]] at this
    have Hsec := Lib.hid (sec_le wd ls Hmem.out (by rw [HN.out] at hlen ⊢; exact hlen))
    have hf2 := heap_alloc_new w1 (.cells #[.int .i64 (r : Nat), .int .i64 ((N : Int) - 1), .int .u64 0] 28)
    have hg2 := World.grownBy_alloc w1 (.cells #[.int .i64 (r : Nat), .int .i64 ((N : Int) - 1), .int .u64 0] 28) none
    have hsz : w.heap.size + 1 ≤ w1.heap.size := by have := hg1.out.size; simpa using this
    have r0 := row_kept (row_kept hf0.out hg1.out (by simp)) hg2 (by simp)
    have hg4 := Lib.hid (grown_trans (grown_trans hg0.out hg1.out) hg2)
    have R0 := Lib.hid r0
    have R3 : Hid ((w1.alloc (.cells #[.int .i64 (r : Nat), .int .i64 ((N : Int) - 1), .int .u64 0] 28)).heap[w1.heap.size]? = some (.cells #[.int .i64 (r : Nat), .int .i64 ((N : Int) - 1), .int .u64 (sec wd (ls.take 0) : Nat)] 28 (0, 0))) := hf2
    have Hcell := Lib.hid (fun W (hW : (w1.alloc (.cells #[.int .i64 (r : Nat), .int .i64 ((N : Int) - 1), .int .u64 0] 28)).grownBy W (some w1.heap.size)) j (hj : j < ls.length) => hW.cell (hg2.cell (Hcl.out j hj) (by simp)) (by intro e; injection e with e; simp only at e; have := cell_lt (Hcl.out j hj); omega))
    have Hnum := Lib.hid (fun W (hW : (w1.alloc (.cells #[.int .i64 (r : Nat), .int .i64 ((N : Int) - 1), .int .u64 0] 28)).grownBy W (some w1.heap.size)) j (hj : j < ls.length) (a : Option Addr) (n c : Nat) (e : vs.getD j undef = .slice a n c) i (hi : i < (ls.getD j []).length) => by
      have h1 := Hnl.out j hj
      rw [e] at h1
      obtain ⟨gl, h2, h3⟩ := h1.num hi
      exact (⟨gl, h2, hW.cell (hg2.cell h3 (by simp)) (by intro e; injection e with e; simp only at e; have := cell_lt h3; omega)⟩ : ∃ gl, a = some ⟨gl, 0, none⟩ ∧ W.cell? ⟨gl, i, none⟩ = some (.int .u64 ((ls.getD j []).getD i 0 : Nat))))
    have hN9 := HN.out
    rw [hN9] at Hcell Hnum hcap hlen ⊢
    have Hsh := Lib.hid (fun j (hj : j < N) => (Hnl.out j (by rw [HN.out]; exact hj)).nums)
    clear hcl hnl e0 hN9 r0 hf2 hg2 Hcl
    go_wp2_with fail
    obtain ⟨G, hG⟩ : ∃ G, G = w1.heap.size := ⟨_, rfl⟩
    rw [← hG] at R3 Hcell Hnum hsz ⊢
    have Hsz := Lib.hid hsz
    generalize w1.alloc (.cells #[.int .i64 (r : Nat), .int .i64 ((N : Int) - 1), .int .u64 0] 28) = w3 at *
    clear hg0 hf0 hg1 hsz HF2 c0 hG
    go_loopw [38] (fun iv wr => ∃ i : Nat, iv = .int .i64 (i : Nat) ∧ i ≤ N ∧ Hid (wr.heap[G]? = some (.cells #[.int .i64 (r : Nat), .int .i64 ((N : Int) - 1), .int .u64 (sec wd (ls.take i) : Nat)] 28 (0, 0))) ∧ Hid (w3.grownBy wr (some G))) (fun iv _ => N - (intOf iv).toNat)
    case atStart => exact ⟨0, rfl, Nat.zero_le _, R3, grown_self _ _⟩
    case round =>
      clear R3
      obtain ⟨i, rfl, hi, hr, hg⟩ := hrel
      by_cases hlt : i < N
      · have ci := Hcell.out wr hg.out i hlt
        obtain ⟨a, cc, e1, _⟩ := Hsh.out i hlt
        have Hnm := Lib.hid (fun W hW => Hnum.out W hW i hlt a _ cc e1)
        have hst := sec_take (wd := wd) (ls := ls) (i := i) (by rw [HN.out]; exact hlt)
        have hb2 := Hsec.out (i + 1)
        rw [hst] at hb2
        have hxl : ∀ x ∈ ls.getD i [], x ≤ 65536 := fun x hx => Hx.out x (List.mem_flatten.2 ⟨_, by rw [show ls.getD i [] = ls[i]'(by rw [HN.out]; exact hlt) by simp [List.getD, show i < ls.length by rw [HN.out]; exact hlt]]; exact List.getElem_mem _, hx⟩)
        rw [e1] at ci
        obtain ⟨l, hl⟩ : ∃ l, l = ls.getD i [] := ⟨_, rfl⟩
        rw [← hl] at ci Hnm hst hb2 hxl
        obtain ⟨S, hS⟩ : ∃ S, S = sec wd (ls.take i) := ⟨_, rfl⟩
        rw [← hS] at hr hst hb2
        obtain ⟨n, hn⟩ : ∃ n, n = l.length := ⟨_, rfl⟩
        rw [← hn] at ci Hnm
        have HnL := Lib.hid hn
        have Hst := Lib.hid hst
        have Hxl := Lib.hid hxl
        have hii : (i : Int) < (N : Int) := by omega
        have hn8 : (n : Int) ≤ 65536 := by
          have : l.length ≤ 65536 := by rw [hl, show ls.getD i [] = ls[i]'(by rw [HN.out]; exact hlt) by simp [List.getD, show i < ls.length by rw [HN.out]; exact hlt]]; exact Hmem.out _ (List.getElem_mem _)
          omega
        have Hb2 := Lib.hid hb2
        have R4 : Hid (wr.heap[G]? = some (.cells #[.int .i64 (r : Nat), .int .i64 ((N : Int) - 1), .int .u64 (S + scs wd (l.take 0) : Nat)] 28 (0, 0))) := hr
        clear e1 hl hS hn hst hxl hb2 hr
        go_wp2_with fail
        obtain ⟨wB, hwB⟩ : ∃ wB, wB = wr := ⟨_, rfl⟩
        rw [← hwB] at hg R4 ⊢
        clear hwB ci
        go_loopw [44] (fun jv W => ∃ j : Nat, jv = .int .i64 (j : Nat) ∧ j ≤ n ∧ Hid (W.heap[G]? = some (.cells #[.int .i64 (r : Nat), .int .i64 ((N : Int) - 1), .int .u64 (S + scs wd (l.take j) : Nat)] 28 (0, 0))) ∧ Hid (w3.grownBy W (some G))) (fun jv _ => n - (intOf jv).toNat)
        case atStart => exact ⟨0, rfl, Nat.zero_le _, R4, hg⟩
        case round =>
          clear R4 hg
          obtain ⟨j, rfl, hj, hr, hg⟩ := hrel
          obtain ⟨p0, p1, p2, p3, p4, p5⟩ := row3 hr.out
          have hb3 := scs_mono wd l j
          have hb4 := Hb2.out
          by_cases hlt2 : j < n
          · obtain ⟨gl, rfl, cx⟩ := Hnm.out wr hg.out j hlt2
            have hx := Hxl.out (l.getD j 0) (by simp [List.getD, show j < l.length by rw [← HnL.out]; exact hlt2])
            have hst := scs_take (wd := wd) (l := l) (i := j) (by rw [← HnL.out]; exact hlt2)
            have hb5 := scs_mono wd l (j + 1)
            obtain ⟨x, hxe⟩ : ∃ x, x = l.getD j 0 := ⟨_, rfl⟩
            rw [← hxe] at cx hx hst
            have HNx := Lib.hid (fun w => HNd.out x (by omega) w)
            have hd := ndN_le wd x
            obtain ⟨d, hde⟩ : ∃ d, d = ndN wd x := ⟨_, rfl⟩
            rw [← hde] at HNx hd hst
            rw [hst] at hb5
            obtain ⟨s, hse⟩ : ∃ s, s = S + scs wd (l.take j) := ⟨_, rfl⟩
            have Hst : Hid (S + scs wd (l.take (j + 1)) = s + d) := by show _ = _; rw [hst, hse]; omega
            rw [← hse] at hr p2
            have hsd : s + d ≤ 175941188321280 := by omega
            have hwd : IntKind.u64.wrap (d : Int) = (d : Int) := wrap64u_in _ (by omega) (by omega)
            have hw1 : IntKind.u64.wrap ((s : Int) + (d : Int)) = ((s + d : Nat) : Int) := by rw [Int.natCast_add]; exact wrap64u_in _ (by omega) (by omega)
            have hjj : (j : Int) < (n : Int) := by omega
            clear hst hse hde hxe hb3 hb4 hb5
            go_wp2_with (first
              | (go_at_call 34; refine (HNx.out wr).mono ?_; rintro e w5 ⟨rfl, hw5⟩; obtain rfl : wr = w5 := hw5.symm)
              | fail)
            refine ⟨⟨j + 1, by rw [Int.natCast_add]; rfl, by omega, ?_, grown_trans hg.out (grown_setCell wr ⟨G, 2, none⟩ _)⟩, by simp [intOf] <;> omega⟩
            show _ = _
            rw [Hst.out, heap_setCell_same _ G 2 _ _ _ hr.out]
            rfl
          · obtain rfl : j = n := by omega
            have e9 : l.take j = l := by rw [HnL.out]; exact List.take_length
            rw [e9, ← Hst.out] at hr
            clear p0 p1 p2 p3 p4 p5 e9 hb3 hb4
            go_wp2_with fail
            refine ⟨⟨i + 1, by rw [Int.natCast_add]; rfl, by omega, hr, hg⟩, by simp [intOf] <;> omega⟩
      · obtain rfl : i = N := by omega
        have e9 : ls.take i = ls := by rw [← HN.out]; exact List.take_length
        rw [e9] at hr
        obtain ⟨p0, p1, p2, p3, p4, p5⟩ := row3 hr.out
        obtain ⟨s, hse⟩ : ∃ s, s = sec wd ls := ⟨_, rfl⟩
        rw [← hse] at hr p2
        have r0 := row_kept R0.out hg.out (by intro e; injection e with e; have := Hsz.out; omega)
        obtain ⟨q0, q1, q2, q3, q4, q5⟩ := row3 r0
        have HR := Lib.hid (row_put3 (.int .i64 (r : Nat)) (.int .i64 ((i : Int) - 1)) (.int .u64 (s : Nat)) r0)
        have hN1 : ((i - 1 : Nat) : Int) = (i : Int) - 1 := by omega
        have HN1 := Lib.hid hN1
        have Hse := Lib.hid hse
        clear e9 hse r0 hN1
        go_wp2_with fail
        refine bodyPost_ret (results_row_tmp (fn := Try.f12) (p := 6) (q := 7) (ty := 28) rfl _ _ w.heap.size 28 _ _ _ rfl HR.out.1 Try.underlying28 rfl HS.out) rfl ?_
        refine ⟨by unfold planV; rw [HN1.out, ← Hse.out]; rfl, grown_own (grown_own hg4.out hg.out (by have := Hsz.out; omega)) HR.out.2 (Nat.le_refl _)⟩
  · have e1 : files b wd c = [] := by unfold files; rw [if_neg h]
    have e2 : mnN b wd c = 0 := by unfold mnN; rw [if_neg h]
    rw [e1, e2]
    have hb : (mnC b wd c == 0) = false := by simpa using h
    have hb2 : (mnC b wd c != 0) = true := by simpa using h
    have HF2 := HF.out
    rw [e1] at HF2
    have HF3 := Lib.hid HF2
    clear HF HF2 e1 e2
    go_enter Try.func12, Try.ntmps12
    go_wp2_with fail
    refine (HF3.out _).mono ?_
    rintro e w1 ⟨v, rfl, hv, hg1⟩
    simp only []
    have r1 := row_kept hf0.out hg1.out (by simp)
    have HR := Lib.hid (row_put3 (.int .i64 0) (.int .i64 0) (.int .u64 0) r1)
    obtain ⟨q0, q1, q2, q3, q4, q5⟩ := row3 r1
    have hG1 := Lib.hid (grown_trans hg0.out hg1.out)
    clear r1 hg0 hf0 hg1
    go_wp2_with fail
    refine bodyPost_ret (results_row_tmp (fn := Try.f12) (p := 6) (q := 7) (ty := 28) rfl _ _ w.heap.size 28 _ _ _ rfl HR.out.1 Try.underlying28 rfl HS.out) rfl ?_
    exact ⟨rfl, grown_own hG1.out HR.out.2 (Nat.le_refl _)⟩
end Go.Proofs.Ytiocmggnmggapaa
