/- The walk of MtfDoes: for every input it returns true and writes nothing that was there; no condition. -/
import Derived.Test.YteopmojpnebjfaaLives
namespace Go.Proofs.Yteopmojpnebjfaa
open Go.RowKit MtfPlain

/-- a contract that may be used again and again -/
theorem thread {f : FuncId} {args : Array Value} {R : Ending → Prop} (h : ∀ w, Calls Try.prog f args w fun e w' => R e ∧ Below w.heap.size w w') (w0 : World) :
    ∀ w1, Below w0.heap.size w0 w1 → Calls Try.prog f args w1 fun e w' => R e ∧ Below w0.heap.size w0 w' := by
  intro w1 hb
  refine (h w1).mono ?_
  rintro e w' ⟨hr, hb'⟩
  exact ⟨hr, hb.trans (hb'.mono hb.size)⟩
theorem thread_same {f : FuncId} {args : Array Value} {R : Ending → Prop} (h : ∀ w, Calls Try.prog f args w fun e w' => R e ∧ w = w') (w0 : World) :
    ∀ w1, Below w0.heap.size w0 w1 → Calls Try.prog f args w1 fun e w' => R e ∧ Below w0.heap.size w0 w' :=
  thread (fun w => (h w).mono (by rintro e w' ⟨hr, rfl⟩; exact ⟨hr, Below.refl _ _⟩)) w0

set_option maxRecDepth 100000 in
set_option maxHeartbeats 2000000 in
theorem mtfDoes_walk (row s : ByteArray) (c : Int) (w0 : row.size ≤ maxLen) (_w1 : s.size ≤ maxLen) (w2 : (Lit.int .u8 c).wf = true) (w : World) :
    Calls Try.prog 3 #[.string row, .string s, .int .u8 c] w fun e w' => e = .returned (.bool true) ∧ Below w.heap.size w w' := by
  obtain ⟨ch, rfl⟩ : ∃ ch : UInt8, c = ch.toNat := by
    have h := w2
    simp [Lit.wf, IntKind.min, IntKind.max, IntKind.signed, IntKind.bits] at h
    exact ⟨UInt8.ofNat c.toNat, by rw [toNat_ofNat_lt (by omega)]; omega⟩
  have M1 := Lib.hid (thread (move_any row s) w)
  have M2 := Lib.hid (thread (fun w => refMove_any row s w w0) w)
  have B1 := Lib.hid (thread (back_any row s) w)
  have B2 := Lib.hid (thread (fun w => refBack_any row s w w0) w)
  have F1 := Lib.hid (thread (mtfFront_any row ch) w)
  have F2 := Lib.hid (thread (fun w => refFront_any row ch w w0) w)
  have C1 := Lib.hid (thread (check_any row) w)
  have C2 := Lib.hid (thread_same (fun w => refCheck_any row w w0) w)
  have R1 := Lib.hid (thread fresh_any w)
  have R2 := Lib.hid (thread refFresh_any w)
  have L := Lib.hid (thread lives_any w)
  have hb := Below.refl w.heap.size w
  generalize (⟨allB.toArray⟩ : ByteArray) = fr at *
  generalize chk row.data.toList = k at *
  generalize told mv row.data.toList s.data.toList = x at *
  generalize told bk row.data.toList s.data.toList = y at *
  generalize toldF row.data.toList ch = z at *
  obtain ⟨⟨a, b⟩, v1⟩ := x
  obtain ⟨⟨f, g⟩, v2⟩ := y
  obtain ⟨x, n, v3⟩ := z
  unfold T3 F3 at *
  simp only at *
  generalize (⟨a.toArray⟩ : ByteArray) = a at *
  generalize (⟨b.toArray⟩ : ByteArray) = b at *
  generalize (⟨f.toArray⟩ : ByteArray) = f at *
  generalize (⟨g.toArray⟩ : ByteArray) = g at *
  generalize (⟨x.toArray⟩ : ByteArray) = x at *
  clear w0 w2
  go_enter Try.func3, Try.ntmps3
  go_wp2_with (first
    | (go_at_call 7; refine (M1.out _ (by assumption)).mono ?_; rintro e w1 ⟨rfl, hb1⟩)
    | (go_at_call 8; refine (M2.out _ (by assumption)).mono ?_; rintro e w2 ⟨rfl, hb2⟩)
    | (go_at_call 9; refine (B1.out _ (by assumption)).mono ?_; rintro e w3 ⟨rfl, hb3⟩)
    | (go_at_call 10; refine (B2.out _ (by assumption)).mono ?_; rintro e w4 ⟨rfl, hb4⟩)
    | (go_at_call 11; refine (F1.out _ (by assumption)).mono ?_; rintro e w5 ⟨rfl, hb5⟩)
    | (go_at_call 12; refine (F2.out _ (by assumption)).mono ?_; rintro e w6 ⟨rfl, hb6⟩)
    | (go_at_call 13; refine (L.out _ (by assumption)).mono ?_; rintro e w7 ⟨rfl, hb7⟩)
    | (go_at_call 14; refine (C1.out _ (by assumption)).mono ?_; rintro e w8 ⟨rfl, hb8⟩)
    | (go_at_call 15; refine (C2.out _ (by assumption)).mono ?_; rintro e w9 ⟨rfl, hb9⟩)
    | (go_at_call 16; refine (R1.out _ (by assumption)).mono ?_; rintro e w10 ⟨rfl, hb10⟩)
    | (go_at_call 17; refine (R2.out _ (by assumption)).mono ?_; rintro e w11 ⟨rfl, hb11⟩))
  go_ret
  exact ⟨rfl, by assumption⟩
end Go.Proofs.Yteopmojpnebjfaa
