/- pool: rows of frames: cloned; looked through. -/
import Derived.Test.YtihohljhjdmamaaGreatPool2
namespace Go.Proofs.YtihohljhjdmamaaGreat
open Go.RowKit
set_option linter.unusedVariables false

theorem frmInfo : (Tryz.prog.info? 106).map (fun i => (i.zero, i.size, i.bytes)) = some (some (.agg #[.string ⟨#[]⟩, .int .i64 0, .string ⟨#[]⟩, .int .i64 0, .bool false, .int .u64 0, .bool false]), 7, 72) := by kernel_rfl
set_option maxRecDepth 100000 in
set_option maxHeartbeats 1000000 in
theorem clone_frm (v : Value) (n : Nat) (xs : List Value) (w : World) (hv : RowAt w v n xs) (hx : xs.length = n * 7) (h1 : ∀ u ∈ xs, u.oneCell' = true) (hn : n ≤ 16384) :
    Calls Tryz.prog 49 #[v] w fun e w' => ∃ a' c', e = .returned (.slice a' n c') ∧ w'.ownsRow w.heap.size 106 7 (.slice a' n c') n xs ∧ Hid (w.grownBy w' none) := by
  obtain ⟨a, cap, rfl, hc⟩ := hv
  cases a with
  | none =>
    have hnil : xs = [] := by
      cases xs with
      | nil => rfl
      | cons u us => obtain ⟨g, h, _⟩ := hc 0 u rfl; cases h
    subst hnil
    have hn0 : n = 0 := by simp at hx; omega
    subst hn0
    have q := fun (w : World) (a : Option Addr) (n c n' c' : Nat) => Lib.run_eql_slice_nil (P := Tryz.prog) w 33 _ a n c n' c' Tryz.underlying33
    clear hc
    go_enter Tryz.func49, Tryz.ntmps49
    go_wp2_with fail
    go_ret
    exact ⟨_, _, rfl, World.ownsRow_nil _ _ _ _, grown_self _ _⟩
  | some ad =>
    obtain ⟨i, hi, hz0, hz1, hz2⟩ := info_parts frmInfo
    have HC : Hid (∀ j u, xs[j]? = some u → (w.alloc (.cells #[] 106)).cell? (ad.add j) = some u) := fun j u hj => by
      obtain ⟨g, h2, h3⟩ := hc j u hj
      injection h2 with h2
      rw [h2, add_plain, Nat.zero_add]
      exact (World.grownBy_alloc w _ none).cell h3 (by simp)
    have hown : Hid ((w.alloc (.cells #[] 106)).ownsRow w.heap.size 106 7 (.slice (some ⟨w.heap.size, 0, none⟩) 0 0) 0 []) := World.ownsRow_made w #[] 0 (Nat.le_refl _) (Nat.zero_le _) rfl
    have HX := Lib.hid hx
    have H1 := Lib.hid h1
    have hb1 : Hid (0 + n ≤ maxLen) := by show _ ≤ _; unfold maxLen; omega
    have hb2 : Hid ((0 + n) * 72 ≤ 140737488355328) := by show _ ≤ _; omega
    have hb3 : Hid (w.heap.size ≤ (w.alloc (.cells #[] 106)).heap.size) := by show _ ≤ _; simp
    have Hg0 := Lib.hid (World.grownBy_alloc w (.cells #[] 106) none)
    have q := fun (w : World) (a : Option Addr) (n c n' c' : Nat) => Lib.run_eql_slice_nil (P := Tryz.prog) w 33 _ a n c n' c' Tryz.underlying33
    clear hc hx h1
    go_enter Tryz.func49, Tryz.ntmps49
    go_wp2_with (first
      | (at_builtin; refine wpList_append_own _ rfl (.tmp 5) (.tmp 6) 33 rfl w.heap.size 106 i _ 7 72 Tryz.underlying33 hi hz0 hz1 hz2 rfl (by decide) _ 0 [] rfl hown.out ad n cap xs rfl HX.out HC.out H1.out hb1.out hb2.out hb3.out ?_; intro v2 w2 ho2 hg2 _; have HO2 := Lib.hid ho2; have HG2 := Lib.hid hg2; clear ho2 hg2)
      | fail)
    go_ret
    obtain ⟨a2, c2, rfl, _⟩ := RowAt.of_owns HO2.out
    rw [Nat.zero_add]
    refine ⟨_, _, rfl, ?_, grown_bel ((bel_grown Hg0.out (Nat.le_refl _)).grown HG2.out hb3.out (fun q e => by have e1 : some w.heap.size = some q := e; injection e1 with e1; omega)) none⟩
    have h9 := HO2.out
    rw [Nat.zero_add, List.nil_append] at h9
    exact h9
set_option maxRecDepth 100000 in
set_option maxHeartbeats 4000000 in
theorem index_chk {nm D : ByteArray} {fs : List (Nat × Nat)} (v : Value) (b : Nat) (w : World) (hv : FrsAt w nm D v fs) (hl : fs.length ≤ 256)
    (HT : Hid (∀ (W : World) (f : Nat × Nat), w.grownBy W none → f ∈ fs → Calls Tryz.prog 71 #[frV nm D f, .pointer (some ⟨b, 0, none⟩)] W fun e w' => e = .returned (.bool false) ∧ Hid (W.grownBy w' none))) :
    Calls Tryz.prog 50 #[v, .func (.func 71) #[] #[.pointer (some ⟨b, 0, none⟩)]] w fun e w' => e = .returned (.int .i64 (-1)) ∧ Hid (w.grownBy w' none) := by
  obtain ⟨a, cap, rfl, hc⟩ := hv.form
  have HC := Lib.hid hc
  clear hc hv
  obtain ⟨n, hn⟩ : ∃ n, n = fs.length := ⟨_, rfl⟩
  rw [← hn] at HC hl ⊢
  have hni : (n : Int) ≤ 256 := by omega
  clear hn
  go_enter Tryz.func50, Tryz.ntmps50
  go_wp2_with fail
  go_loopw [8] (fun iv wr => ∃ i : Nat, iv = .int .i64 (i : Nat) ∧ i ≤ n ∧ Hid (w.grownBy wr none)) (fun iv _ => n - (intOf iv).toNat)
  case atStart => exact ⟨0, rfl, Nat.zero_le _, grown_self _ _⟩
  case round =>
    obtain ⟨i, rfl, hi, hg⟩ := hrel
    by_cases hlt : i < n
    · obtain ⟨g, f, rfl, hf, c0, c1, c2, c3, c4, c5, c6⟩ := HC.out wr hg.out i hlt
      have HT1 := Lib.hid (HT.out wr f hg.out (List.mem_of_getElem? hf))
      unfold frV heldF at HT1
      have hii : (i : Int) < (n : Int) := by omega
      clear hf
      go_wp2_with fail
      (with_reducible refine HT1.out.mono ?_)
      rintro e w2 ⟨rfl, hg2⟩
      simp only []
      go_wp2_with fail
      exact ⟨⟨i + 1, by rw [Int.natCast_add]; rfl, by omega, grown_trans hg.out hg2.out⟩, by simp [intOf]; omega⟩
    · obtain rfl : i = n := by omega
      go_wp2_with fail
      go_ret
      exact ⟨rfl, hg⟩
set_option maxRecDepth 100000 in
set_option maxHeartbeats 4000000 in
theorem index_pin {nm D : ByteArray} {fs : List (Nat × Nat)} (v : Value) (b c : Nat) (w : World) (hv : FrsAt w nm D v fs) (hl : fs.length ≤ 256)
    (HT : Hid (∀ (W : World) (f : Nat × Nat), w.grownBy W none → f ∈ fs → Calls Tryz.prog 51 #[frV nm D f, .pointer (some ⟨b, 0, none⟩), .pointer (some ⟨c, 0, none⟩)] W fun e w' => e = .returned (.bool false) ∧ Hid (W.grownBy w' none))) :
    Calls Tryz.prog 50 #[v, .func (.func 51) #[] #[.pointer (some ⟨b, 0, none⟩), .pointer (some ⟨c, 0, none⟩)]] w fun e w' => e = .returned (.int .i64 (-1)) ∧ Hid (w.grownBy w' none) := by
  obtain ⟨a, cap, rfl, hc⟩ := hv.form
  have HC := Lib.hid hc
  clear hc hv
  obtain ⟨n, hn⟩ : ∃ n, n = fs.length := ⟨_, rfl⟩
  rw [← hn] at HC hl ⊢
  have hni : (n : Int) ≤ 256 := by omega
  clear hn
  go_enter Tryz.func50, Tryz.ntmps50
  go_wp2_with fail
  go_loopw [8] (fun iv wr => ∃ i : Nat, iv = .int .i64 (i : Nat) ∧ i ≤ n ∧ Hid (w.grownBy wr none)) (fun iv _ => n - (intOf iv).toNat)
  case atStart => exact ⟨0, rfl, Nat.zero_le _, grown_self _ _⟩
  case round =>
    obtain ⟨i, rfl, hi, hg⟩ := hrel
    by_cases hlt : i < n
    · obtain ⟨g, f, rfl, hf, c0, c1, c2, c3, c4, c5, c6⟩ := HC.out wr hg.out i hlt
      have HT1 := Lib.hid (HT.out wr f hg.out (List.mem_of_getElem? hf))
      unfold frV heldF at HT1
      have hii : (i : Int) < (n : Int) := by omega
      clear hf
      go_wp2_with fail
      (with_reducible refine HT1.out.mono ?_)
      rintro e w2 ⟨rfl, hg2⟩
      simp only []
      go_wp2_with fail
      exact ⟨⟨i + 1, by rw [Int.natCast_add]; rfl, by omega, grown_trans hg.out hg2.out⟩, by simp [intOf]; omega⟩
    · obtain rfl : i = n := by omega
      go_wp2_with fail
      go_ret
      exact ⟨rfl, hg⟩
set_option maxRecDepth 100000 in
set_option maxHeartbeats 1000000 in
theorem contains_chk {nm D : ByteArray} {fs : List (Nat × Nat)} (v : Value) (b : Nat) (w : World) (hv : FrsAt w nm D v fs) (hl : fs.length ≤ 256)
    (HT : Hid (∀ (W : World) (f : Nat × Nat), w.grownBy W none → f ∈ fs → Calls Tryz.prog 71 #[frV nm D f, .pointer (some ⟨b, 0, none⟩)] W fun e w' => e = .returned (.bool false) ∧ Hid (W.grownBy w' none))) :
    Calls Tryz.prog 70 #[v, .func (.func 71) #[] #[.pointer (some ⟨b, 0, none⟩)]] w fun e w' => e = .returned (.bool false) ∧ Hid (w.grownBy w' none) := by
  have HI := Lib.hid (index_chk v b w hv hl HT)
  clear HT
  go_enter Tryz.func70, Tryz.ntmps70
  go_wp2_with fail
  (with_reducible refine HI.out.mono ?_)
  rintro e w2 ⟨rfl, hg2⟩
  simp only []
  go_wp2_with fail
  go_ret
  exact ⟨rfl, hg2⟩
/-- a variable's cells that are a frame's -/
def FrRow (w : World) (nm D : ByteArray) (b : Nat) (f : Nat × Nat) : Prop := w.heap[b]? = some (.cells (frC nm D f).toArray 106 (0, 0))
theorem FrRow.grown {w w' : World} {nm D : ByteArray} {b : Nat} {f : Nat × Nat} (h : FrRow w nm D b f) (hg : w.grownBy w' none) : FrRow w' nm D b f := row_kept h hg (by simp)
theorem FrRow.cells {w : World} {nm D : ByteArray} {b : Nat} {f : Nat × Nat} (h : FrRow w nm D b f) : w.cell? ⟨b, 0, none⟩ = some (.string (nmO nm f)) ∧ w.cell? ⟨b, 1, none⟩ = some (.int .i64 (f.1 : Nat)) ∧ w.cell? ⟨b, 2, none⟩ = some (.string (datO D f)) ∧ w.cell? ⟨b, 3, none⟩ = some (.int .i64 (f.2 : Nat)) ∧ w.cell? ⟨b, 4, none⟩ = some (.bool false) ∧ w.cell? ⟨b, 5, none⟩ = some (.int .u64 (f.1 : Nat)) ∧ w.cell? ⟨b, 6, none⟩ = some (.bool false) := (row7 h).1

set_option maxRecDepth 100000 in
set_option maxHeartbeats 2000000 in
theorem check1_no {nm D : ByteArray} (f g : Nat × Nat) (b : Nat) (hkf : FrOk f) (hkg : FrOk g) (hn : isNm nm = true) (h : f.1 = 0 ∨ g.1 = 0 ∨ f.1 ≠ g.1) (w : World) (hb : FrRow w nm D b f) :
    Calls Tryz.prog 71 #[frV nm D g, .pointer (some ⟨b, 0, none⟩)] w fun e w' => e = .returned (.bool false) ∧ Hid (w.grownBy w' none) := by
  have HL := Lib.hid (fun W => like_any (D := D) f g hkf hkg hn h W)
  have q0 := heap_alloc_new w (.cells (frC nm D g).toArray 106)
  have g0 := World.grownBy_alloc w (.cells (frC nm D g).toArray 106) none
  obtain ⟨a0, a1, a2, a3, a4, a5, a6⟩ := (show FrRow (w.alloc (.cells (frC nm D g).toArray 106)) nm D b f from hb.grown g0).cells
  obtain ⟨b0, b1, b2, b3, b4, b5, b6⟩ := (show FrRow (w.alloc (.cells (frC nm D g).toArray 106)) nm D w.heap.size g from q0).cells
  have G0 := Lib.hid g0
  clear q0 g0 hb hkf hkg hn h
  unfold frV heldF frC at *
  go_enter Tryz.func71, Tryz.ntmps71
  go_wp2_with fail
  (with_reducible refine (HL.out _).mono ?_)
  rintro e w2 ⟨rfl, hg2⟩
  simp only []
  go_wp2_with fail
  go_ret
  exact ⟨rfl, grown_trans G0.out hg2.out⟩
end Go.Proofs.YtihohljhjdmamaaGreat
