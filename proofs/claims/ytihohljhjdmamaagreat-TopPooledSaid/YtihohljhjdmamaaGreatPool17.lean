/- pool: what a text's file has, plain. -/
import Derived.Test.YtihohljhjdmamaaGreatKept12
import Derived.Test.YtihohljhjdmamaaGreatPool2
namespace Go.Proofs.YtihohljhjdmamaaGreat
open Go.RowKit
set_option linter.unusedVariables false

def sl (p : ByteArray) (k : Nat) : ByteArray := p.extract (64 * k) (64 * k + 64)
def tl (p : ByteArray) (k : Nat) : ByteArray := p.extract (64 * k) p.size
def wsK (p : ByteArray) (k : Nat) : List (Nat × ByteArray) := (List.range k).map fun i => (i + 1, sl p i)
theorem wsK_length (p : ByteArray) (k : Nat) : (wsK p k).length = k := by simp [wsK]
theorem wsK_succ (p : ByteArray) (k : Nat) : wsK p (k + 1) = wsK p k ++ [(k + 1, sl p k)] := by simp [wsK, List.range_succ]
theorem tl_zero (p : ByteArray) : tl p 0 = p := by unfold tl; simp
theorem tl_size (p : ByteArray) (k : Nat) : (tl p k).size = p.size - 64 * k := by unfold tl; rw [ByteArray.size_extract]; omega
theorem sl_size {p : ByteArray} {k : Nat} (h : 64 * k + 64 ≤ p.size) : (sl p k).size = 64 := by unfold sl; rw [ByteArray.size_extract]; omega
theorem ext_ext (p : ByteArray) (i j k l : Nat) : (p.extract i j).extract k l = p.extract (i + k) (min (i + l) j) := by
  have : ((p.extract i j).extract k l).data = (p.extract (i + k) (min (i + l) j)).data := by
    rw [ByteArray.data_extract, ByteArray.data_extract, ByteArray.data_extract, Array.extract_extract]
  exact ByteArray.ext this
theorem tl_head {p : ByteArray} {k : Nat} (h : 64 * k + 64 ≤ p.size) : (tl p k).extract 0 64 = sl p k := by
  unfold tl sl
  rw [ext_ext]
  congr 1; omega
theorem tl_tail {p : ByteArray} {k : Nat} (h : 64 * k + 64 ≤ p.size) : (tl p k).extract 64 (tl p k).size = tl p (k + 1) := by
  rw [tl_size]
  unfold tl
  rw [ext_ext]
  congr 1; omega
theorem wsK_get (p : ByteArray) (n k : Nat) (h : k < n) : (wsK p n).getD k (0, ⟨#[]⟩) = (k + 1, sl p k) := by
  unfold wsK
  rw [List.getD_eq_getElem?_getD, List.getElem?_map, List.getElem?_range h]
  rfl
theorem wsK_mem {p : ByteArray} {n : Nat} (hp : p.size = 64 * n) {x : Nat × ByteArray} (hx : x ∈ wsK p n) : x.1 ≤ n ∧ x.2.size = 64 := by
  unfold wsK at hx
  obtain ⟨i, hi, rfl⟩ := List.mem_map.1 hx
  have := List.mem_range.1 hi
  exact ⟨by show i + 1 ≤ n; omega, sl_size (by omega)⟩
theorem sl_get {p : ByteArray} {k j : Nat} (h : 64 * k + 64 ≤ p.size) (hj : j < 64) : (sl p k).data.toList[j]? = p.data.toList[64 * k + j]? := by
  unfold sl
  have hs : p.data.size = p.size := rfl
  rw [ByteArray.data_extract, Array.getElem?_toList, Array.getElem?_toList, Array.getElem?_extract]
  rw [if_pos (by omega)]
theorem stl_seq {p : ByteArray} {L : List UInt8} {n : Nat} (hp : p.size = 64 * n) (hL : L.length = 64 * (n + 1)) : ∀ k, k ≤ n → (stl (fun _ => true) (wsK p n) L k).length = L.length ∧ ∀ i, i < k → ∀ j, j < 64 → (stl (fun _ => true) (wsK p n) L k)[64 * (i + 1) + j]? = p.data.toList[64 * i + j]? := by
  intro k
  induction k with
  | zero => intro _; exact ⟨rfl, fun i hi => by omega⟩
  | succ k ih =>
    intro hk
    obtain ⟨ih1, ih2⟩ := ih (by omega)
    have hg := wsK_get p n k (by omega)
    have hsz := sl_size (p := p) (k := k) (by omega)
    have hf : 64 * (k + 1) + (sl p k).data.toList.length ≤ (stl (fun _ => true) (wsK p n) L k).length := by
      rw [size_data, hsz, ih1]; omega
    have hst : stl (fun _ => true) (wsK p n) L (k + 1) = spl (stl (fun _ => true) (wsK p n) L k) (64 * (k + 1)) (sl p k).data.toList := by
      show (if true = true then spl (stl (fun _ => true) (wsK p n) L k) (64 * ((wsK p n).getD k (0, ⟨#[]⟩)).1) ((wsK p n).getD k (0, ⟨#[]⟩)).2.data.toList else _) = _
      rw [hg, if_pos rfl]
    rw [hst]
    refine ⟨by rw [spl_length hf, ih1], fun i hi j hj => ?_⟩
    rw [spl_get hf, size_data, hsz]
    rcases Nat.lt_or_ge i k with h | h
    · rw [if_pos (by omega)]
      exact ih2 i h j hj
    · obtain rfl : i = k := by omega
      rw [if_neg (by omega), if_pos (by omega), ← sl_get (by omega) hj]
      congr 1; omega
/-- the file has the padded text, sector for sector, behind its head -/
theorem file_sec {p D h : ByteArray} {n : Nat} (hp : p.size = 64 * n) (hD : D.size = 64 * (n + 1)) (hh : h.size = 64) : (dall [(0, h)] (dall (wsK p n) D)).size = 64 * (n + 1) ∧ (dall (wsK p n) D).size = 64 * (n + 1) ∧ ∀ i, i < n → sec (dall [(0, h)] (dall (wsK p n) D)) (i + 1) = sl p i := by
  have hL : D.data.toList.length = 64 * (n + 1) := by rw [size_data, hD]
  obtain ⟨q1, q2⟩ := stl_seq hp hL n (Nat.le_refl _)
  have d1 : (dall (wsK p n) D).data.toList = stl (fun _ => true) (wsK p n) D.data.toList n := by
    unfold dall dn
    rw [wsK_length]
  have s1 : (dall (wsK p n) D).size = 64 * (n + 1) := by rw [← size_data, d1, q1, hL]
  generalize dall (wsK p n) D = E at d1 s1 ⊢
  have hsp : 64 * 0 + h.data.toList.length ≤ E.data.toList.length := by rw [size_data, size_data]; omega
  have d2 : (dall [(0, h)] E).data.toList = spl E.data.toList (64 * 0) h.data.toList := by
    unfold dall dn
    rfl
  have s2 : (dall [(0, h)] E).size = 64 * (n + 1) := by rw [← size_data, d2, spl_length hsp, size_data, s1]
  refine ⟨s2, s1, fun i hi => ?_⟩
  generalize dall [(0, h)] E = F at d2 s2 ⊢
  have key : ∀ j, j < 64 → F.data.toList[64 * (i + 1) + j]? = (sl p i).data.toList[j]? := fun j hj => by
    rw [d2, spl_get hsp, size_data, hh, if_neg (by omega), if_neg (by omega), d1, q2 i hi j hj, sl_get (by omega) hj]
  have hsz := sl_size (p := p) (k := i) (by omega)
  unfold sec
  have hss : (F.extract (64 * (i + 1)) (64 * (i + 1) + 64)).size = 64 := by rw [ByteArray.size_extract]; omega
  apply ByteArray.ext
  apply Array.ext_getElem?
  intro j
  rcases Nat.lt_or_ge j 64 with hj | hj
  · have := key j hj
    rw [Array.getElem?_toList, Array.getElem?_toList] at this
    have hs : F.data.size = F.size := rfl
    rw [ByteArray.data_extract, Array.getElem?_extract, if_pos (by omega), this]
  · rw [Array.getElem?_eq_none (by show (F.extract (64 * (i + 1)) (64 * (i + 1) + 64)).size ≤ j; omega), Array.getElem?_eq_none (by show (sl p i).size ≤ j; omega)]
end Go.Proofs.YtihohljhjdmamaaGreat
