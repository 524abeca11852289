/- TopCoded: lengths that cost least, written, and symbols' codes behind them, are read again: the lengths, then the symbols, to the end: the given card is proved. Its condition: the two listed package variables hold what their initialisers lay, which the given tie ties to the program's text. -/
import Derived.Test.YtidmmcgnghdfdaaDoorRows
import Derived.Test.YtidmmcgnghdfdaaDoorCards
import Derived.Test.YtidmmcgnghdfdaaDoorTie
import Derived.Test.YtidmmcgnghdfdaaDoorCoded17
import Derived.WalkKit
import Derived.ProofKit
import Derived.OpenShut
import Derived.ShutString
import Derived.ChangeOld
import Derived.Below
import Derived.ChangeSame
import Derived.ChangeVars
import Derived.JoinedOf
import Derived.RowKit
import Derived.RowKitTokens
import Derived.LaidLaws
import Derived.Stop.LaidErr
import Derived.LaidMore
import Derived.SevenTiedAt
import Derived.Stop.Joined
import Derived.MakeChecks
namespace Go.Proofs.YtidmmcgnghdfdaaDoor
open Go.ChangeShapes Go.WideShapes Go.ChangeAt Go.RowKit
open Go.ChangeMaps (open_string shut_string)
set_option linter.unusedVariables false

theorem topCoded_own : ownKnob Tryd.prog.godebug = none := by kernel_rfl
theorem topCoded_laidOut : laidOutB Tryd.prog = true := by kernel_rfl
theorem topCoded_gS : Tryd.prog.globalNamed "wringer/table.errShort" = some 0 := by kernel_rfl
theorem topCoded_tS : (Tryd.prog.globals[0]?).map (·.type) = some 71 := by kernel_rfl
theorem topCoded_star : "*" ++ "errors.errorString" = "*errors.errorString" := by decide
theorem topCoded_row (u : TypeId) (h : Tryd.prog.typeName? 3 u = some "*errors.errorString") : u = 124 :=
  typeName_ptr_named (nm := "errors.errorString") (by rw [topCoded_star]; kernel_rfl) (by kernel_rfl) (by decide) u (by rw [topCoded_star]; exact h)
theorem topCoded_cellsE : Tryd.prog.cellsOf 149 = 1 := by kernel_rfl
theorem topCoded_cellsS : Tryd.prog.cellsOf 9 = 1 := by kernel_rfl

/-- the listed variables hold in the door's own heap what is listed -/
theorem topCoded_met (os : Os) (args : Array Value) : laidMetH Tryd.prog Rows.topCodedRow.laid ((World.doorLaid Tryd.prog 400 os).forCall (fun _ _ => 0) ⟨#[], args, []⟩).memory :=
  laidMetH_of_parts3 (fuel := 8) (laidMet_of_run' 8 (by kernel_rfl) (by kernel_rfl)) (by kernel_rfl) (by kernel_rfl)

/-- what the condition gives the walk: the variable holds an interface value that is not nil -/
theorem topCoded_cell {W : World} (h : laidMetH Tryd.prog Rows.topCodedRow.laid W) : ∃ tE vE, W.cell? ⟨0, 0, none⟩ = some (.iface tE vE) := by
  rw [MakeChecks.laidMetH_plain _ _ _ (by kernel_rfl)] at h
  obtain ⟨a0, s0, hv0, hc0, hs0, hz0⟩ := laid_sentinel h topCoded_gS topCoded_tS Tryd.underlying71 topCoded_row Tryd.underlying124 Tryd.underlying149 rfl rfl Tryd.underlying9 topCoded_cellsE topCoded_cellsS
  exact ⟨_, _, by simpa using World.var?_cell topCoded_gS hv0 0⟩

set_option maxRecDepth 100000 in
theorem topCoded_lifted (os : Os) (started : os.Started) (H : Type) (enc : TypeId × Value → H) :
    ReturnsInHanded {} Tryd.checked os 3 .any (fun w args => (Rows.topCodedSpec.pre enc Tryd.prog Tryd.f3 Rows.topCodedRow.domain false w args ∧ laidMetH Tryd.prog Rows.topCodedRow.laid w) ∧ sizedMet enc Tryd.prog Tryd.f3 (OpenSpec.ofChange Rows.topCodedSpec) false w args)
      (Rows.topCodedSpec.post enc Tryd.prog Tryd.f3 false true false false) := by
  refine returnsInHanded_of_change_and (C := Tryd.checked) (X := fun w _ => laidMetH Tryd.prog Rows.topCodedRow.laid w) (fun _ _ _ hh h => h.of_heap hh) topCoded_own started (by kernel_rfl) Tryd.func3
    (ChangeSpec.witness_shaped (enc := enc) (C := Tryd.checked) (os := os) (X := fun w _ => laidMetH Tryd.prog Rows.topCodedRow.laid w) false (World.doorLaid Tryd.prog 400 os) #[.slice none 0 0] 8 rfl (World.shaped_of_RefB (by kernel_rfl) (by kernel_rfl)) (by kernel_rfl) (by kernel_rfl) (by kernel_rfl) (topCoded_met os _)) ?_
  intro W base args ds gs before hval0 hW _ _ hL _
  have hval : ∀ (j : Nat) t v, Tryd.f3.params[j]? = some t → args[j]? = some v → Value.okWide Tryd.prog W .any base t v := hval0
  have hW' := hW
  obtain ⟨p, q, hA0, hV, rfl, hfz, hnd⟩ := hW
  have hA : DataW.TrodAll enc Tryd.prog W 0 (fun _ => true) true Tryd.f3.params.toList args.toList ds p := hA0
  rw [Tryd.params3] at hA hval
  obtain ⟨v0, vs0, d0, ds0, p0, q0, hargs, rfl, rfl, h0, r0⟩ := trodAll_cons hA
  obtain ⟨rfl, rfl, rfl⟩ := trodAll_nil r0
  obtain rfl : args = #[v0] := by cases args; simp_all
  obtain ⟨rfl, rfl⟩ := trodVars_none hV
  obtain ⟨a0, len0, cap0, rfl⟩ := okWide_slice Tryd.underlying22 (hval 0 22 v0 rfl rfl)
  have k0 := h0
  have lt0 : ∀ x ∈ p0, x.block < W.heap.size := by obtain ⟨m, hm⟩ := k0; exact DataW.trod_lt m _ _ _ hm
  obtain ⟨z0, w0⟩ : ∃ zs, IsRow .u8 W a0 len0 cap0 zs := by
    obtain ⟨fuel, hf⟩ := h0
    rcases open_ints Tryd.underlying22 Tryd.underlying5 (by kernel_rfl) hf with ⟨hcs, _⟩ | ⟨x, l, c, zs, hcs, _, hl, hm, hz, _, hcell, hwz⟩
    · simp [Value.cells] at hcs
      obtain ⟨rfl, rfl, rfl⟩ := hcs
      exact ⟨[], .inl ⟨rfl, rfl, rfl, rfl⟩⟩
    · simp [Value.cells] at hcs
      obtain ⟨rfl, rfl, rfl⟩ := hcs
      exact ⟨zs, .inr ⟨_, rfl, hl, hm, by simpa using hz, hcell, hwz⟩⟩
  obtain ⟨tE, vE, hE⟩ := topCoded_cell hL
  clear hA0 hval0
  refine (topCoded_walk a0 len0 cap0 z0 tE vE W w0 hE).mono fun e W' ⟨he, bel⟩ => ?_
  subst he
  exact ⟨_, rfl, _, _, _, [], _, [], hW', trodAll_mk1 (shut_bool Tryd.underlying4 _), (trodAll_cons_mk (Below.trod topCoded_laidOut (by kernel_rfl) (of_decide_eq_true (by kernel_rfl)) k0 bel lt0) trodAll_mk0), rfl, bel.frame _, fun h => by cases h⟩

theorem topCoded_over : Rows.topCodedRow.holds Tryd.pinned (OpenSpec.ofChange Rows.topCodedSpec) :=
  OpenClaim.holds_of_wide 3 Tryd.f3 rfl rfl rfl rfl rfl rfl rfl ⟨rfl, rfl, rfl, rfl, rfl⟩ rfl rfl rfl rfl rfl (by kernel_rfl) Tryd.func3 (by kernel_rfl)
    (of_decide_eq_true (by kernel_rfl)) (by unfold Func.isWrapper; first | (rw [if_pos (by decide +kernel)]; kernel_rfl) | (rw [if_neg (by decide +kernel)]; exact ⟨rfl, rfl⟩))
    (fun os started H enc _ => topCoded_lifted os started H enc)

theorem TopCoded_holds : Rows.TopCodedCardSaid :=
  Claim7.holds_tied_plain_at .later [] [.sentinel, .sentinel] true (true, "a2772031e775f66a42f11d58a611e740b30d14d1ef4e9b56cdaf011973374f89") true
    topCoded_over (fun _ h => by cases h) (by kernel_rfl) (fun _ h => by cases h) topCoded_row_tie rfl ⟨rfl, rfl⟩ (by kernel_rfl) rfl
    (fun f fn hf hfn => by
      obtain rfl : f = 3 := Option.some.inj ((show Tryd.prog.funcNamed "wringer/wringertop.TopCoded" = some 3 by kernel_rfl).symm.trans hf) |>.symm
      obtain rfl : fn = Tryd.f3 := (Option.some.inj (Tryd.func3.symm.trans hfn)).symm
      exact ⟨by kernel_rfl, fun j t ht => by
        rw [Tryd.params3] at ht
        have h3 : t = 22 := by
          rcases j with _ | j
          · simpa using ht.symm
          · simp at ht
        subst h3
        exact (show Tryd.prog.wantsStandIn 22 = false by kernel_rfl)⟩)
    (by kernel_rfl)
#print axioms TopCoded_holds
end Go.Proofs.YtidmmcgnghdfdaaDoor
