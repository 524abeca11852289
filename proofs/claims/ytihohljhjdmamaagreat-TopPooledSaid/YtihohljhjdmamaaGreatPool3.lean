/- recs: a head. -/
import Derived.Test.YtihohljhjdmamaaGreatPool1
namespace Go.Proofs.YtihohljhjdmamaaGreat
open Go.RowKit
set_option linter.unusedVariables false

set_option maxRecDepth 100000 in
theorem byteOf_zero (w : World) : Calls Tryz.prog 67 #[.int .i64 0] w fun e w' => ∃ g, e = .returned (.slice (some ⟨g, 0, none⟩) 1 1) ∧ Hid (BytesAt w' (some ⟨g, 0, none⟩) [0]) ∧ Hid (w.grownBy w' none) := by
  have q0 := heap_alloc_new w (.cells #[.int .u8 0] 5)
  have g0 := Lib.hid (World.grownBy_alloc w (.cells #[.int .u8 0] 5) none)
  have hb : Hid (BytesAt (w.alloc (.cells #[.int .u8 0] 5)) (some ⟨w.heap.size, 0, none⟩) [0]) := fun a ha => by
    injection ha with ha
    refine ⟨w.heap.size, ha.symm, fun j u hj => ?_⟩
    have h1 : j = 0 := by
      have := (List.getElem?_eq_some_iff.1 hj).1
      simp [bcells] at this
      omega
    subst h1
    rw [row_cell q0 0 _ rfl]
    exact hj
  clear q0
  go_enter Tryz.func67, Tryz.ntmps67
  go_wp2_with fail
  go_ret
  exact ⟨_, rfl, hb, g0⟩
theorem head_bytes {W : World} {b c : Nat} (h : W.heap[b]? = some (.cells #[.int .u8 ((c : Int) / 4294967296 % 256), .int .u8 ((c : Int) / 16777216 % 256), .int .u8 ((c : Int) / 65536 % 256), .int .u8 ((c : Int) / 256 % 256), .int .u8 ((c : Int) % 256)] 122 (0, 0))) : BytesAt W (some ⟨b, 0, none⟩) (b5 c) := fun a ha => by
  injection ha with ha
  refine ⟨b, ha.symm, fun j u hj => ?_⟩
  rw [b5_cells] at hj
  exact row_cell h j u (by simpa using hj)
set_option maxRecDepth 100000 in
set_option maxHeartbeats 4000000 in
theorem head_any (c : Nat) (hc : c ≤ 65536) (w : World) : Calls Tryz.prog 41 #[.int .i64 0, .int .u64 (c : Nat)] w fun e w' => ∃ h : ByteArray, h.size = 64 ∧ e = .returned (.string h) ∧ Hid (w.grownBy w' none) := by
  have HF := Lib.hid (fun w => five_any c (by omega) w)
  go_enter Tryz.func41, Tryz.ntmps41
  go_wp2_with fail
  refine (HF.out _).mono ?_
  rintro e w1 ⟨rfl, hg1⟩
  simp only []
  go_wp2_with fail
  have q0 := heap_alloc_new w1 (.cells #[.int .u8 ((c : Int) / 4294967296 % 256), .int .u8 ((c : Int) / 16777216 % 256), .int .u8 ((c : Int) / 65536 % 256), .int .u8 ((c : Int) / 256 % 256), .int .u8 ((c : Int) % 256)] 122)
  have hgW : Hid (w.grownBy (w1.alloc (.cells #[.int .u8 ((c : Int) / 4294967296 % 256), .int .u8 ((c : Int) / 16777216 % 256), .int .u8 ((c : Int) / 65536 % 256), .int .u8 ((c : Int) / 256 % 256), .int .u8 ((c : Int) % 256)] 122)) none) := grown_trans hg1.out (World.grownBy_alloc _ _ _)
  have hba := head_bytes q0
  generalize w1.alloc (.cells #[.int .u8 ((c : Int) / 4294967296 % 256), .int .u8 ((c : Int) / 16777216 % 256), .int .u8 ((c : Int) / 65536 % 256), .int .u8 ((c : Int) / 256 % 256), .int .u8 ((c : Int) % 256)] 122) = W at q0 hgW hba ⊢
  generalize w1.heap.size = b at q0 hba ⊢
  have HC5 : Hid (∀ W', W.grownBy W' none → Sem.run Tryz.prog (convert 81 9 (.slice (some ⟨b, 0, none⟩) 5 5)) W' = .ok (.string ⟨(b5 c).toArray⟩) W') := fun W' hW => run_conv (l := b5 c) (cap := 5) (fun h => by cases h) (hba.kept hW)
  obtain ⟨s5, hs5⟩ : ∃ s5 : ByteArray, s5 = ⟨(b5 c).toArray⟩ := ⟨_, rfl⟩
  rw [← hs5] at HC5
  have hs5l : s5.size = 5 := by rw [hs5]; rfl
  have hs5le : s5.size ≤ 5 := by omega
  have HS5 := Lib.hid hs5l
  have HFr : Hid (∀ (x : ByteArray) (V : World), x.size = 8 → Calls Tryz.prog 66 #[.string x] V fun e w' => ∃ y : ByteArray, y.size = 12 ∧ e = .returned (.tuple #[.string y, .int .i64 0]) ∧ Hid (V.grownBy w' none)) := fun x V hx => by
    refine (frame_any x V (by omega)).mono ?_
    rintro e w' ⟨rfl, h2⟩
    refine ⟨_, ?_, rfl, grown_of_below' h2⟩
    show (x.data.toList ++ _).toArray.size = 12
    rw [List.size_toArray, List.length_append, size_data, hx]
    rfl
  have HPd : Hid (∀ (y : ByteArray) (V : World), y.size = 12 → Calls Tryz.prog 38 #[.string y] V fun e w' => ∃ p : ByteArray, p.size = 64 ∧ e = .returned (.string p) ∧ Hid (V.grownBy w' none)) := fun y V hy => by
    refine (padded_any y (by omega) V).mono ?_
    rintro e w' ⟨p, rfl, h1, _, h3⟩
    exact ⟨p, by rw [h1, hy], rfl, h3⟩
  have HB := Lib.hid (fun W => byteOf_zero W)
  have cv0 := HC5.out W.drew (grown_drew W none)
  clear hs5 hs5l hba q0 HF hc
  go_region_with (first
    | (go_at_call 67; refine (HB.out _).mono ?_; rintro e w2 ⟨g, rfl, hb2, hg2⟩; have cv1 := HC5.out w2 (grown_trans (grown_drew W none) hg2.out); have cv2 := run_conv (l := [0]) (cap := 1) (fun h => by cases h) hb2.out; simp only [List.length_cons, List.length_nil, Nat.zero_add] at cv2)
    | (go_at_call 66; refine (HFr.out _ _ (by have := HS5.out; simp [ByteArray.size_append, this]; rfl)).mono ?_; rintro e w3 ⟨y, hy, rfl, hg3⟩; have Hy := Lib.hid hy; clear hy)
    | fail)
  all_goals
    clear cv0 cv1 cv2
    go_wp2_with fail
    (with_reducible refine (HPd.out y w3 Hy.out).mono ?_)
    rintro e w4 ⟨p, hp, rfl, hg4⟩
    simp only []
    go_wp2_with fail
    go_ret
    exact ⟨p, hp, rfl, grown_trans hgW.out (grown_trans (grown_drew W none) (grown_trans hg2.out (grown_trans hg3.out hg4.out)))⟩
end Go.Proofs.YtihohljhjdmamaaGreat
