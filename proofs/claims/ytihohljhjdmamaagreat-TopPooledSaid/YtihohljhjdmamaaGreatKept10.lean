/- Bytes of a string's own row, and strings that are copied into them. -/
import Derived.Test.YtihohljhjdmamaaGreatKept9
import Derived.Lib.ConvBytes
import Derived.Lib.LazyBuf
namespace Go.Proofs.YtihohljhjdmamaaGreat
open Go.RowKit
set_option linter.unusedVariables false

/-- v is a slice of its own row, from B on, that holds the bytes L; the row's end may be marked -/
def BytesF (w : World) (B : Nat) (v : Value) (L : List UInt8) : Prop := ∃ g cap, v = .slice (some ⟨g, 0, none⟩) L.length cap ∧ L.length ≤ cap ∧ B ≤ g ∧ ∀ j (hj : j < L.length), w.cell? ⟨g, j, none⟩ = some (.int .u8 (L[j].toNat : Int)) ∧ w.frozen? ⟨g, j, none⟩ = false
theorem cells_grown {w w' : World} {g : Nat} {r : Option Nat} (hg : w.grownBy w' r) (hr : r ≠ some g) (hlt : g < w.heap.size) (j : Nat) : w'.cell? ⟨g, j, none⟩ = w.cell? ⟨g, j, none⟩ ∧ w'.frozen? ⟨g, j, none⟩ = w.frozen? ⟨g, j, none⟩ := by
  have h := hg.block g hlt (fun e => hr e.symm)
  simp [World.cell?, World.frozen?, h]
theorem BytesF.kept {w w' : World} {B g n cap : Nat} {L : List UInt8} (h : BytesF w B (.slice (some ⟨g, 0, none⟩) n cap) L) {r : Option Nat} (hg : w.grownBy w' r) (hr : r ≠ some g) (h0 : 0 < L.length) : BytesF w' B (.slice (some ⟨g, 0, none⟩) n cap) L := by
  obtain ⟨g', cap', h1, h2, h3, h4⟩ := h
  injection h1 with e1 e2 e3
  injection e1 with e1
  injection e1 with e1
  subst e1 e2 e3
  have hlt := cell_lt (h4 0 h0).1
  exact ⟨g, cap, rfl, h2, h3, fun j hj => by rw [(cells_grown hg hr hlt j).1, (cells_grown hg hr hlt j).2]; exact h4 j hj⟩
def spl (L : List UInt8) (o : Nat) (d : List UInt8) : List UInt8 := L.take o ++ d ++ L.drop (o + d.length)
theorem spl_length {L : List UInt8} {o : Nat} {d : List UInt8} (h : o + d.length ≤ L.length) : (spl L o d).length = L.length := by
  unfold spl; simp; omega
theorem spl_get {L d : List UInt8} {o : Nat} (h : o + d.length ≤ L.length) (j : Nat) : (spl L o d)[j]? = if j < o then L[j]? else if j < o + d.length then d[j - o]? else L[j]? := by
  have e1 : (L.take o).length = o := by rw [List.length_take]; omega
  unfold spl
  rw [List.append_assoc, List.getElem?_append, e1]
  split
  · rename_i h1; rw [List.getElem?_take, if_pos h1]
  · rename_i h1
    rw [List.getElem?_append]
    split
    · rw [if_pos (by omega)]
    · rw [if_neg (by omega), List.getElem?_drop]
      congr 1; omega
theorem spl_getElem {L d : List UInt8} {o : Nat} (h : o + d.length ≤ L.length) (j : Nat) (hj : j < (spl L o d).length) (x : UInt8) (hx : (if j < o then L[j]? else if j < o + d.length then d[j - o]? else L[j]?) = some x) : (spl L o d)[j] = x := by
  have h1 := spl_get h j
  rw [hx, List.getElem?_eq_getElem hj] at h1
  exact Option.some.inj h1
theorem setCells_grown (b : Nat) : ∀ (vs : List Value) (o : Nat) (w : World), w.grownBy (w.setCells b o vs) (some b)
  | [], o, w => grown_self _ _
  | v :: vs, o, w => grown_trans (grown_setCell w ⟨b, o, none⟩ v) (setCells_grown b vs (o + 1) _)
theorem BytesF.copy {w : World} {B g n cap o : Nat} {L d : List UInt8} (h : BytesF w B (.slice (some ⟨g, 0, none⟩) n cap) L) (hf : o + d.length ≤ L.length) : BytesF (w.setCells g o (d.map fun x => Value.int .u8 (x.toNat : Int))) B (.slice (some ⟨g, 0, none⟩) n cap) (spl L o d) := by
  obtain ⟨g', cap', h1, h2, h3, h4⟩ := h
  injection h1 with e1 e2 e3
  injection e1 with e1
  injection e1 with e1
  subst e1 e2 e3
  have hl := spl_length hf
  refine ⟨g, cap, by rw [hl], by rw [hl]; exact h2, h3, fun j hj => ?_⟩
  rw [hl] at hj
  refine ⟨?_, by rw [World.frozen?_setCells]; exact (h4 j hj).2⟩
  by_cases hin : o ≤ j ∧ j < o + d.length
  · obtain ⟨i, rfl⟩ : ∃ i, j = o + i := ⟨j - o, by omega⟩
    rw [World.cell?_setCells_in g _ o w (fun k hk => by rw [List.length_map] at hk; rw [(h4 (o + k) (by omega)).1]; rfl) i (by rw [List.length_map]; omega)]
    rw [spl_getElem hf (o + i) (by rw [hl]; exact hj) (d[i]'(by omega)) (by rw [if_neg (by omega), if_pos hin.2, Nat.add_sub_cancel_left, List.getElem?_eq_getElem])]
    simp
  · rw [World.cell?_setCells_out g _ o w _ (fun _ _ => by rw [List.length_map]; simp only; omega), (h4 j hj).1]
    rw [spl_getElem hf j (by rw [hl]; exact hj) (L[j]'hj) (by
      rcases Nat.lt_or_ge j o with h9 | h9
      · rw [if_pos h9, List.getElem?_eq_getElem]
      · rw [if_neg (by omega), if_neg (by omega), List.getElem?_eq_getElem])]
/-- 'copy(dst, s)' into such bytes, in a region that draws its order -/
theorem step_copy_strF {P : Program} {ops : Array Oper} {o : Oper} {a : Act} {w : World} {K : Act → World → Prop} {Q : Exit → Act → World → Prop} {E : Prop} (hgd : o.guard = none) (d s : Operand) (dT sT : TypeId)
    (ho : o.op = .call { callee := .builtin .copy, args := #[d, s], argTypes := #[dT, sT] }) (elem : TypeId) (hu : P.underlying dT = some (.slice elem)) (hz : ∀ w, (Go.sizeOf elem).run P w = .ok 1 w)
    (B g n cap off dLen dCap : Nat) (L : List UInt8) (hb : BytesF w B (.slice (some ⟨g, 0, none⟩) n cap) L) (str : ByteArray) (hd : a.eval d = .slice (some ⟨g, off, none⟩) dLen dCap) (hs : a.eval s = .string str) (hle : str.size ≤ dLen) (hfit : off + str.size ≤ L.length)
    (h : ∀ w', BytesF w' B (.slice (some ⟨g, 0, none⟩) n cap) (spl L off str.data.toList) → w.grownBy w' (some g) → K (a.put o.dst (goInt str.size)) w') :
    if Region.wanted o (yielded ops a.tmps) = true then Oper.wp P o a w K Q else E := by
  have hw : Region.wanted o (yielded ops a.tmps) = true := by simp [Region.wanted, hgd]
  rw [if_pos hw]
  obtain ⟨g', cap', h1, _, _, h4⟩ := id hb
  injection h1 with e1
  injection e1 with e1
  injection e1 with e1
  subst e1
  have hrun := run_copy_string (P := P) w dT sT o.type elem g off dLen dCap str hu hz hle (fun j hj => by rw [(h4 (off + j) (by omega)).1]; rfl) (fun j hj => (h4 (off + j) (by omega)).2)
  unfold Oper.wp
  simp [execOp, ho, resolve, invoke, builtin, hd, hs, hrun, Result.andThen]
  exact h _ (BytesF.copy hb (by rw [size_data]; exact hfit)) (setCells_grown g _ _ _)
/-- '[]byte(s)' -/
theorem wpList_conv_str {P : Program} {ops : Array Oper} {rest : List Oper} {o : Oper} {a : Act} {w : World} {Q : Exit → Act → World → Prop} (hgd : o.guard = none) (src dst e : TypeId) (x : Operand) (ho : o.op = .convert src dst x)
    (hs : P.underlying src = some .string) (hd : P.underlying dst = some (.slice e)) (he : P.underlying e = some (.int .u8)) (B : Nat) (hB : B ≤ w.heap.size)
    (s : ByteArray) (hx : a.eval x = .string s)
    (h : ∀ cap w1, BytesF w1 B (.slice (some ⟨w.heap.size, 0, none⟩) s.size cap) s.data.toList → w.grownBy w1 none → wpList P ops Q rest (a.put o.dst (.slice (some ⟨w.heap.size, 0, none⟩) s.size cap)) w1) : wpList P ops Q (o :: rest) a w := by
  refine wpList_plain hgd fun K hK => ?_
  have hrun := Lib.run_convert_string_bytes (P := P) w src dst e s hs hd he
  have hge := grownCap_ge w s.size 0 e
  have hsz : s.size ≤ (Lib.bytesCells w e s).size := by unfold Lib.bytesCells; simp
  unfold Oper.wp execOp
  simp only [ho, hx, hrun, Sem.run_bind, Sem.run_pure, Result.andThen_ok]
  refine hK _ _ (h _ _ ⟨w.heap.size, _, by rw [size_data], by rw [size_data]; exact hge, hB, fun j hj => ?_⟩ ⟨rfl, rfl, rfl, by rw [Lib.bytesWorld_size]; omega, fun k hk _ => Lib.bytesWorld_at_old w e s k hk⟩)
  rw [size_data] at hj
  refine ⟨by rw [Lib.bytesWorld_cell w e s j hj]; simp [List.getD, hj], ?_⟩
  simp [World.frozen?, Lib.bytesWorld_at_new]
  omega
end Go.Proofs.YtihohljhjdmamaaGreat
