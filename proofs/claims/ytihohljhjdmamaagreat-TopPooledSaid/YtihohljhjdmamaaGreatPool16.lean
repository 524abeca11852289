/- pool: Pin. -/
import Derived.Test.YtihohljhjdmamaaGreatPool15
namespace Go.Proofs.YtihohljhjdmamaaGreat
open Go.RowKit
set_option linter.unusedVariables false

/-- results: a cell that holds a whole row, and two slots. -/
theorem results_row_tmp2 {P : Program} {fn : Func} {p q r : Tmp} {ty : TypeId} (h : fn.results = #[.cell p ty, .tmp q, .tmp r]) (tmps : Array Value) (w : World) (g : Nat) (t : TypeId) (cs : Array Value) (fr : Nat × Nat) (d : TypeDesc)
    (hp : tmps.getD p undef = .pointer (some ⟨g, 0, none⟩)) (hg : w.heap[g]? = some (.cells cs t fr))
    (hu : P.underlying ty = some d) (hd : (match d with | .struct _ | .array _ _ => true | _ => false) = true) (hi : (P.info? ty).map (·.size) = some cs.size) :
    (results fn tmps).run P w = .ok (.tuple #[.agg cs, tmps.getD q undef, tmps.getD r undef]) w := by
  have hp' : tmps[p]?.getD undef = .pointer (some ⟨g, 0, none⟩) := by simpa using hp
  simp [results, h, hp', asAddr, run_loadVar_row w g t ty cs fr d hg hu hd hi]

set_option maxRecDepth 100000 in
set_option maxHeartbeats 8000000 in
theorem ppin_any {S m T R s : Nat} {nm D : ByteArray} {fs : List (Nat × Nat)} (hn : isNm nm = true) (hok : PoolOk S m T nm D fs) (hk : ∀ f ∈ fs, FrOk f ∧ f.2 = 0 ∧ f.1 ≠ s) (h1 : 1 ≤ fs.length) (hsT : s = T + 1) (hsm : s < m) (hR : R ≤ 1000000) (v : Value) (w : World) (hv : PlAt w S nm D fs T R v) :
    Calls Tryz.prog 9 #[v, .string nm, .int .i64 (s : Nat)] w fun e w' => ∃ (k : Nat) (q : Value), k < fs.length ∧ e = .returned (.tuple #[q, .int .i64 (k : Nat), .int .i64 0]) ∧ Hid (PlAt w' S nm D (fs.set k (s, 1)) (T + 1) (R + 1) q) ∧ Hid (w.grownBy w' none) := by
  have HS := Lib.hid pool_size
  have HO : Hid (∀ W, w.grownBy W none → Calls Tryz.prog 23 #[v] W fun e w' => ∃ a b, e = .returned (.tuple #[.pointer (some ⟨a, 0, none⟩), .int .i64 0]) ∧ Hid (ArAt w' W.heap.size a b S nm D fs T R) ∧ Hid (W.grownBy w' none)) := fun W hW => popen_any hok.good hok.size hok.few hok.fs hok.tick v W (hv.grown hW)
  have hfew := hok.fs.few
  have HPi := Lib.hid (fun (W : World) (B a b : Nat) (hB : B ≤ W.heap.size) (ha : ArAt W B a b S nm D fs T R) => apin_any hn hk h1 hfew hsT hok.size hsm hok.few hR W hB ha)
  have HPl := Lib.hid (fun (W : World) (B a b k : Nat) (ha : ArAt W B a b S nm D (fs.set k (s, 1)) (T + 1) (R + 1)) => plain_any W ha)
  obtain ⟨ae, ce, aw, cw, af, cf, hcf, rfl, _, _, _⟩ := hv.form
  have Hln : Hid (∀ k, (fs.set k (s, 1)).length = fs.length) := fun k => List.length_set ..
  clear hok hv hcf hk h1 hsT
  generalize hfn : fs.length = n at HO Hln HPi ⊢
  clear hfn
  generalize hTT : T + 1 = T1 at HPi HPl ⊢
  generalize hRR : R + 1 = R1 at HPi HPl ⊢
  obtain ⟨q0, q1, hsz⟩ := two_blocks w (.cells #[.int .i64 (S : Nat), .slice ae 1 ce, .slice aw 0 cw, .int .i64 (-1), .bool false, .slice af n cf, .int .u64 (T : Nat), .int .u64 (R : Nat), .int .u64 0] 36) (.cells #[.int .i64 0, .slice none 0 0, .slice none 0 0, .int .i64 0, .bool false, .slice none 0 0, .int .u64 0, .int .u64 0, .int .u64 0] 36)
  have g0 := Lib.hid (grown_trans (World.grownBy_alloc w (.cells #[.int .i64 (S : Nat), .slice ae 1 ce, .slice aw 0 cw, .int .i64 (-1), .bool false, .slice af n cf, .int .u64 (T : Nat), .int .u64 (R : Nat), .int .u64 0] 36) none) (World.grownBy_alloc _ (.cells #[.int .i64 0, .slice none 0 0, .slice none 0 0, .int .i64 0, .bool false, .slice none 0 0, .int .u64 0, .int .u64 0, .int .u64 0] 36) none))
  have HF := Lib.hid (fun W (hW : World.grownBy _ W none) => And.intro (row_kept (w' := W) q1 hW (by simp)) (row9 (row_kept (w' := W) q1 hW (by simp))))
  obtain ⟨c0, c1, c2, c3, c4, c5, c6, c7, c8⟩ := (row9 q0).1
  clear q0 q1 hsz
  go_enter Tryz.func9, Tryz.ntmps9
  go_wp2_with fail
  clear c0 c1 c2 c3 c4 c5 c6 c7 c8
  generalize (w.alloc (.cells #[.int .i64 (S : Nat), .slice ae 1 ce, .slice aw 0 cw, .int .i64 (-1), .bool false, .slice af n cf, .int .u64 (T : Nat), .int .u64 (R : Nat), .int .u64 0] 36)).alloc (.cells #[.int .i64 0, .slice none 0 0, .slice none 0 0, .int .i64 0, .bool false, .slice none 0 0, .int .u64 0, .int .u64 0, .int .u64 0] 36) = w0 at g0 HF ⊢
  obtain ⟨P, hP⟩ : ∃ P, P = w.heap.size := ⟨_, rfl⟩
  rw [← hP] at HF ⊢
  have HPe := Lib.hid hP
  clear hP
  (with_reducible refine (HO.out _ g0.out).mono ?_)
  rintro e w1 ⟨a, b, rfl, hA, hg1⟩
  simp only []
  go_wp2_with fail
  have HB1 : Hid (w0.heap.size ≤ w1.heap.size) := hg1.out.size
  (with_reducible refine (HPi.out w1 _ a b HB1.out hA.out).mono ?_)
  rintro e w2 ⟨k, hk, rfl, hA2, hb2⟩
  have Hg2 : Hid (w0.grownBy w2 none) := grown_bel ((bel_grown hg1.out (Nat.le_refl _)).trans hb2.out) none
  simp only []
  go_wp2_with fail
  (with_reducible refine (HPl.out w2 _ a b k hA2.out).mono ?_)
  rintro e w3 ⟨q, rfl, hq, hg3⟩
  obtain ⟨ae', ce', aw', cw', af', cf', hcf', rfl, h3e, h3w, h3f⟩ := hq.out.form
  obtain ⟨hrow3, ⟨c0, c1, c2, c3, c4, c5, c6, c7, c8⟩, hfz⟩ := HF.out w3 (grown_trans Hg2.out hg3.out)
  have Hrow3 := Lib.hid hrow3
  have H3 := Lib.hid (And.intro hcf' (And.intro h3e (And.intro h3w h3f)))
  clear hrow3 hcf' h3e h3w h3f
  rw [Hln.out]
  simp only []
  go_wp2_with fail
  clear c0 c1 c2 c3 c4 c5 c6 c7 c8 hfz
  obtain ⟨hr1, hr2, hr3⟩ := put_pool (w := w) (T := T1) (R := R1) n (Hln.out k) (T1 : Nat) (R1 : Nat) rfl rfl Hrow3.out H3.out.1 H3.out.2.1 H3.out.2.2.1 H3.out.2.2.2 (grown_trans g0.out (grown_trans Hg2.out hg3.out)) (by have := HPe.out; omega)
  generalize (((((((((w3.setCell ⟨P + 1, 0, none⟩ (.int .i64 (S : Nat))).setCell ⟨P + 1, 1, none⟩ (.slice ae' 1 ce')).setCell ⟨P + 1, 2, none⟩ (.slice aw' 0 cw')).setCell ⟨P + 1, 3, none⟩ (.int .i64 (-1))).setCell ⟨P + 1, 4, none⟩ (.bool false)).setCell ⟨P + 1, 5, none⟩ (.slice af' n cf')).setCell ⟨P + 1, 6, none⟩ (.int .u64 (T1 : Nat))).setCell ⟨P + 1, 7, none⟩ (.int .u64 (R1 : Nat))).setCell ⟨P + 1, 8, none⟩ (.int .u64 0)) = W at hr1 hr2 hr3 ⊢
  refine bodyPost_ret (results_row_tmp2 (fn := Tryz.f9) (p := 6) (q := 7) (r := 8) (ty := 36) rfl _ _ (P + 1) 36 _ _ _ rfl hr1 Tryz.underlying36 rfl HS.out) rfl ?_
  exact ⟨k, _, hk, rfl, hr2, hr3⟩
end Go.Proofs.YtihohljhjdmamaaGreat
