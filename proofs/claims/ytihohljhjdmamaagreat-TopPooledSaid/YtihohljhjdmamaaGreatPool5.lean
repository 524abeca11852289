/- pool: sound. -/
import Derived.Test.YtihohljhjdmamaaGreatPool4
import Derived.Test.YtihohljhjdmamaaGreatKept14
namespace Go.Proofs.YtihohljhjdmamaaGreat
open Go.RowKit
set_option linter.unusedVariables false

theorem sec_size {D : ByteArray} {m t : Nat} (hD : D.size = 64 * m) (ht : t < m) : (sec D t).size = 64 := by
  unfold sec
  rw [ByteArray.size_extract]
  omega
set_option maxRecDepth 100000 in
set_option maxHeartbeats 4000000 in
theorem sound_free (b T : Nat) (w : World) : Calls Tryz.prog 69 #[.pointer (some ⟨b, 0, none⟩), zeroF, .int .u64 (T : Nat)] w fun e w' => e = .returned (.bool true) ∧ Hid (w.grownBy w' none) := by
  have HH := Lib.hid (fun W => holds_no W)
  have HF := Lib.hid (fun W => free_yes W)
  unfold zeroF at *
  have q0 := heap_alloc_new w (.cells #[.string ⟨#[]⟩, .int .i64 0, .string ⟨#[]⟩, .int .i64 0, .bool false, .int .u64 0, .bool false] 106)
  have g0 := Lib.hid (World.grownBy_alloc w (.cells #[.string ⟨#[]⟩, .int .i64 0, .string ⟨#[]⟩, .int .i64 0, .bool false, .int .u64 0, .bool false] 106) none)
  have hq := Lib.hid (fun W (hW : World.grownBy _ W none) => (row7 (row_kept (w' := W) q0 hW (by simp))).1)
  clear q0
  go_enter Tryz.func69, Tryz.ntmps69
  go_wp2_with fail
  (with_reducible refine (HH.out _).mono ?_)
  rintro e w1 ⟨rfl, hg1⟩
  obtain ⟨c0, c1, c2, c3, c4, c5, c6⟩ := hq.out w1 hg1.out
  simp only []
  go_wp2_with fail
  (with_reducible refine (HF.out _).mono ?_)
  rintro e w2 ⟨rfl, hg2⟩
  clear c0 c1 c2 c3 c4 c5 c6
  obtain ⟨c0, c1, c2, c3, c4, c5, c6⟩ := hq.out w2 (grown_trans hg1.out hg2.out)
  simp only []
  go_wp2_with fail
  go_ret
  exact ⟨rfl, grown_trans g0.out (grown_trans hg1.out hg2.out)⟩
set_option maxRecDepth 100000 in
set_option maxHeartbeats 4000000 in
theorem sound_held {B b S m : Nat} {nm D : ByteArray} (t p T : Nat) (hn : isNm nm = true) (hD : D.size = 64 * m) (hm : m ≤ 16384) (ht : t < m) (h0 : t ≠ 0) (hp : p ≤ 256) (hT : t ≤ T) (hT2 : T ≤ 1000000) (w : World) (hd : DevAt w B b S nm (some D) []) :
    Calls Tryz.prog 69 #[.pointer (some ⟨b, 0, none⟩), heldF nm (sec D t) t p, .int .u64 (T : Nat)] w fun e w' => e = .returned (.bool true) ∧ Hid (w.grownBy w' none) := by
  have HH := Lib.hid (fun W => holds_yes nm (sec D t) t p hn W)
  have HR : Hid (∀ W, w.grownBy W none → Calls Tryz.prog 53 #[.pointer (some ⟨b, 0, none⟩), .string nm, .int .i64 (t : Nat)] W fun e w' => e = .returned (.tuple #[.string (sec D t), .int .i64 0]) ∧ Hid (W.grownBy w' none)) := fun W hW => devread_ok t hD ht hm W (hd.grown hW)
  have hsz := sec_size hD ht
  clear hd hD hn
  generalize sec D t = d at *
  unfold heldF at *
  have q0 := heap_alloc_new w (.cells #[.string nm, .int .i64 (t : Nat), .string d, .int .i64 (p : Nat), .bool false, .int .u64 (t : Nat), .bool false] 106)
  have g0 := Lib.hid (World.grownBy_alloc w (.cells #[.string nm, .int .i64 (t : Nat), .string d, .int .i64 (p : Nat), .bool false, .int .u64 (t : Nat), .bool false] 106) none)
  have hq := Lib.hid (fun W (hW : World.grownBy _ W none) => (row7 (row_kept (w' := W) q0 hW (by simp))).1)
  have hpi : (p : Int) ≤ 256 := by omega
  have hp0 : (0 : Int) ≤ (p : Int) := by omega
  have ht1 : (1 : Int) ≤ (t : Int) := by omega
  have htT : (t : Int) ≤ (T : Int) := by omega
  have htTn : t ≤ T := hT
  have hszi : (d.size : Int) = 64 := by omega
  have Hsz := Lib.hid hsz
  clear q0 hsz
  go_enter Tryz.func69, Tryz.ntmps69
  go_wp2_with fail
  (with_reducible refine (HH.out _).mono ?_)
  rintro e w1 ⟨rfl, hg1⟩
  obtain ⟨c0, c1, c2, c3, c4, c5, c6⟩ := hq.out w1 hg1.out
  simp only []
  go_wp2_with fail
  (with_reducible refine (HR.out _ (grown_trans g0.out hg1.out)).mono ?_)
  rintro e w2 ⟨rfl, hg2⟩
  clear c0 c1 c2 c3 c4 c5 c6
  obtain ⟨c0, c1, c2, c3, c4, c5, c6⟩ := hq.out w2 (grown_trans hg1.out hg2.out)
  simp only []
  go_wp2_with fail
  go_ret
  exact ⟨rfl, grown_trans g0.out (grown_trans hg1.out hg2.out)⟩
end Go.Proofs.YtihohljhjdmamaaGreat
