/- What is kept is read. -/
import Derived.Test.YtihohljhjdmamaaKept12
namespace Go.Proofs.Ytihohljhjdmamaa
open Go.RowKit
set_option linter.unusedVariables false

theorem stl_other {K : Nat → Bool} {ws : List (Nat × ByteArray)} {L : List UInt8} {q : Nat} (h : ∀ p ∈ ws, 64 * p.1 + 64 ≤ L.length ∧ p.2.size = 64) (hq : ∀ p ∈ ws, p.1 ≠ q) (j : Nat) (h1 : 64 * q ≤ j) (h2 : j < 64 * q + 64) : ∀ k, k ≤ ws.length → (stl K ws L k)[j]? = L[j]?
  | 0, _ => rfl
  | k + 1, hk => by
    have ih := stl_other (K := K) h hq j h1 h2 k (by omega)
    have hm : ws.getD k (0, ⟨#[]⟩) ∈ ws := by simp [List.getD, show k < ws.length by omega]
    have hp := h _ hm
    have hn := hq _ hm
    have hl := stl_length (K := K) h k (by omega)
    rw [stl]
    split
    · rw [spl_get (by rw [hl, size_data]; omega), ih, size_data]
      rw [hp.2]
      by_cases ha : j < 64 * (ws.getD k (0, ⟨#[]⟩)).1
      · rw [if_pos ha]
      · rw [if_neg ha, if_neg (by omega)]
    · exact ih
theorem dn_data (K : Nat → Bool) (ws : List (Nat × ByteArray)) (D : ByteArray) : (dn K ws D).data.toList = stl K ws D.data.toList ws.length := by simp [dn]
theorem dn_size {K : Nat → Bool} {ws : List (Nat × ByteArray)} {D : ByteArray} (h : ∀ p ∈ ws, 64 * p.1 + 64 ≤ D.size ∧ p.2.size = 64) : (dn K ws D).size = D.size := by
  rw [← size_data, dn_data, stl_length (by simpa [size_data] using h) _ (Nat.le_refl _), size_data]
theorem bytes_ext {x y : ByteArray} (h : x.data.toList = y.data.toList) : x = y := by
  cases x; cases y; congr 1; exact Array.toList_inj.1 h
theorem extract_bytes {B x : ByteArray} {a : Nat} (hx : x.size = 64) (hB : a + 64 ≤ B.size) (h : ∀ j, j < 64 → B.data.toList[a + j]? = x.data.toList[j]?) : B.extract a (a + 64) = x := by
  apply bytes_ext
  apply List.ext_getElem?
  intro j
  have e : (B.extract a (a + 64)).data.toList = (B.data.toList.drop a).take 64 := by
    obtain ⟨⟨l⟩⟩ := B
    simp
  rw [e, List.getElem?_take]
  split
  · rw [List.getElem?_drop]; exact h j (by omega)
  · rw [List.getElem?_eq_none (by rw [size_data]; omega)]
theorem dall_one {D x : ByteArray} {q : Nat} (hx : x.size = 64) (hD : 64 * q + 64 ≤ D.size) : (dall [(q, x)] D).size = D.size ∧ ∀ j, j < 64 → (dall [(q, x)] D).data.toList[64 * q + j]? = x.data.toList[j]? := by
  constructor
  · exact dn_size (fun p hp => by simp at hp; subst hp; exact ⟨hD, hx⟩)
  · intro j hj
    unfold dall
    rw [dn_data]
    show (spl D.data.toList (64 * q) x.data.toList)[64 * q + j]? = _
    rw [spl_get (by rw [size_data, size_data]; omega), if_neg (by omega), if_pos (by rw [size_data]; omega), Nat.add_sub_cancel_left]
theorem kept_read {K : Nat → Bool} {ws : List (Nat × ByteArray)} {D x : ByteArray} {q : Nat} (hx : x.size = 64) (hD : 64 * q + 64 ≤ D.size) (hw : ∀ p ∈ ws, p.1 ≠ q ∧ 64 * p.1 + 64 ≤ D.size ∧ p.2.size = 64) :
    (dn K ws (dall [(q, x)] D)).extract (64 * q) (64 * q + 64) = x := by
  obtain ⟨h1, h2⟩ := dall_one hx hD
  have h3 : ∀ p ∈ ws, 64 * p.1 + 64 ≤ (dall [(q, x)] D).size ∧ p.2.size = 64 := fun p hp => by rw [h1]; exact (hw p hp).2
  refine extract_bytes hx (by rw [dn_size h3, h1]; omega) (fun j hj => ?_)
  rw [dn_data, stl_other (by simpa [size_data] using h3) (fun p hp => (hw p hp).1) (64 * q + j) (by omega) (by omega) _ (Nat.le_refl _)]
  exact h2 j hj
/-- the name of the file -/
def nmA : ByteArray := ⟨#[97]⟩
theorem nmA_is : isNm nmA = true := by
  unfold isNm
  rw [ByteArray.toList_eq]
  decide
theorem good8 {D : ByteArray} {ws : List (Nat × ByteArray)} (hD : D.size = 64 * 4) (hl : ws.length ≤ 16384) (hw : ∀ p ∈ ws, 64 * p.1 + 64 ≤ D.size ∧ p.2.size = 64) : Good 8 nmA (some D) ws :=
  ⟨by omega, nmA_is, fun D' e => by cases e; exact ⟨4, hD, by omega, by omega⟩, hl, fun p hp => ⟨D, rfl, hw p hp⟩⟩
theorem good8n : Good 8 nmA none [] := ⟨by omega, nmA_is, (fun D' e => by cases e), by simp, (fun p hp => by simp at hp)⟩
end Go.Proofs.Ytihohljhjdmamaa
