/- Records are read. -/
import Derived.Test.YtihohljhjdmamaaKept16
namespace Go.Proofs.Ytihohljhjdmamaa
open Go.RowKit
set_option linter.unusedVariables false

/-- the number's first i bytes -/
def hi5 (y i : Nat) : Nat := y / 256 ^ (5 - i)
theorem hi5_step {y i : Nat} (hi : i < 5) : hi5 y (i + 1) = hi5 y i * 256 + y / 256 ^ (4 - i) % 256 := by
  unfold hi5
  rw [show 5 - (i + 1) = 4 - i by omega, show 5 - i = (4 - i) + 1 by omega, Nat.pow_succ, ← Nat.div_div_eq_div_mul]
  omega
theorem b5_get {y i : Nat} (hi : i < 5) : ((b5 y)[i]'(by simp [b5]; omega)).toNat = y / 256 ^ (4 - i) % 256 := by
  match i, hi with
  | 0, _ => simp [b5]
  | 1, _ => simp [b5]
  | 2, _ => simp [b5]
  | 3, _ => simp [b5]
  | 4, _ => simp [b5]
set_option maxRecDepth 100000 in
set_option maxHeartbeats 1000000 in
theorem of_any (s : ByteArray) (y : Nat) (r : List UInt8) (hs : s.data.toList = b5 y ++ r) (hy : y < 1099511627776) (hsz : s.size ≤ 1048576) (w : World) :
    Calls Try.prog 29 #[.string s] w fun e w' => e = .returned (.int .u64 (y : Nat)) ∧ w' = w := by
  have h5 : 5 ≤ s.size := by rw [← size_data, hs]; simp [b5]
  have HB : Hid (∀ i (hi : i < 5), (s[i]'(by omega)).toNat = y / 256 ^ (4 - i) % 256) := fun i hi => by
    rw [← b5_get hi]
    have h1 := data_at s i (by omega)
    rw [hs, List.getElem?_append_left (by simp [b5]; omega), List.getElem?_eq_getElem (by simp [b5]; omega)] at h1
    exact (congrArg UInt8.toNat (Option.some.inj h1)).symm
  have HL : Hid (∀ i, i ≤ 5 → hi5 y i ≤ y) := fun i _ => Nat.div_le_self _ _
  have HZ : Hid (hi5 y 0 = 0) := by show y / 256 ^ 5 = 0; exact Nat.div_eq_of_lt (by omega)
  have HE : Hid (hi5 y 5 = y) := by show y / 256 ^ 0 = y; simp
  clear hs
  go_enter Try.func29, Try.ntmps29
  go_wp2
  go_loop [3, 5] (fun nv iv => ∃ i n : Nat, iv = .int .i64 (i : Nat) ∧ i ≤ 5 ∧ nv = .int .u64 (n : Nat) ∧ Hid (n = hi5 y i)) (fun _ iv => 5 - (intOf iv).toNat)
  case atStart => exact ⟨0, 0, rfl, Nat.zero_le _, rfl, HZ.out.symm⟩
  case round =>
    obtain ⟨i, n, rfl, hi, rfl, hn⟩ := hrel
    have hny : n ≤ y := by rw [hn.out]; exact HL.out i hi
    by_cases hlt : i < 5
    · have hb := HB.out i hlt
      obtain ⟨p, hp⟩ : ∃ p, p = y / 256 ^ (4 - i) % 256 := ⟨_, rfl⟩
      rw [← hp] at hb
      have hp6 : p < 256 := by rw [hp]; omega
      have hnx : Hid (n * 256 + p = hi5 y (i + 1)) := by show _ = _; rw [hi5_step hlt, hn.out, hp]
      have hny2 : n * 256 + p ≤ y := by rw [hnx.out]; exact HL.out _ (by omega)
      have hj : Hid (bits .or .u64 ((n : Int) * 256) (p : Int) = ((n * 256 + p : Nat) : Int)) := by
        have h := u64_join n 8 p (by omega) (by omega) (by omega)
        rw [show (n : Int) * (2 : Int) ^ 8 = (n : Int) * 256 by rfl, wrap64u_in _ (by omega) (by omega)] at h
        exact h
      have his : i < s.size := by omega
      clear hp
      go_wp2_with fail
      exact ⟨⟨i + 1, n * 256 + p, by rw [Int.natCast_add]; rfl, by omega, by rw [hj.out], hnx⟩, by simp [intOf] <;> omega⟩
    · obtain rfl : i = 5 := by omega
      have hne : Hid (n = y) := by show _ = _; rw [hn.out, HE.out]
      go_wp2_with fail
      go_ret
      exact ⟨by rw [← hne.out]; rfl, rfl⟩
theorem elemLists : ElemOf Try.prog 42 22 (.slice none 0 0) 24 := ⟨Try.underlying42, by kernel_rfl, rfl⟩
set_option maxRecDepth 100000 in
theorem run_makeNums (n : Nat) (hn : n ≤ 1000000) (W : World) :
    (Instr.makeSlice 22 (.int .i64 (n : Int)) (.int .i64 (n : Int))).run Try.prog W = .ok (.slice (some ⟨W.heap.size, 0, none⟩) n n) (W.alloc (.cells (Array.replicate n (.int .u64 0)) 51)) := by
  obtain ⟨i, hi, hz0, hz1, hz2⟩ := info_parts elemNums.info
  have hr := run_make (P := Try.prog) W 22 51 i _ Try.underlying22 hi hz0 .i64 .i64 n n (by omega) (by omega) (by rw [hz2]; omega) (by omega)
  simp only [Int.toNat_natCast] at hr
  rw [hr, hz1]
  congr 3
  apply Array.ext
  · simp [madeCells]
  · intro j h1 h2
    simp [madeCells]
    show #[Value.int .u64 0][j % 1]! = _
    rw [Nat.mod_one]; rfl
/-- the row of the numbers read till now -/
def nrow (l : List Nat) (k : Nat) : Array Value := (ncells (l.take k ++ List.replicate (l.length - k) 0)).toArray
theorem nrow_zero (l : List Nat) : Array.replicate l.length (Value.int .u64 0) = nrow l 0 := by
  unfold nrow ncells
  apply Array.ext
  · simp
  · intro j h1 h2; simp
theorem nrow_all (l : List Nat) : nrow l l.length = (ncells l).toArray := by unfold nrow; rw [List.take_length, Nat.sub_self]; simp
theorem nrow_set (l : List Nat) (k : Nat) (h : k < l.length) : (nrow l k).setIfInBounds k (.int .u64 (l[k] : Nat)) = nrow l (k + 1) := by
  apply Array.ext_getElem?
  intro j
  rw [Array.getElem?_setIfInBounds]
  have hg : ∀ k' j, k' ≤ l.length → (nrow l k')[j]? = if j < k' then (l[j]?).map (fun n => Value.int .u64 (n : Nat)) else if j < l.length then some (Value.int .u64 0) else none := fun k' j hk' => by
    unfold nrow ncells
    rw [List.getElem?_toArray, List.getElem?_map, List.getElem?_append, List.length_take, Nat.min_eq_left hk', List.getElem?_take, List.getElem?_replicate]
    by_cases h1 : j < k'
    · simp [h1]
    · rw [if_neg h1, if_neg h1]
      by_cases h2 : j < l.length
      · rw [if_pos (by omega), if_pos h2]; simp
      · rw [if_neg (by omega), if_neg h2]; simp
  by_cases hj : k = j
  · subst hj
    have hs : k < (nrow l k).size := by unfold nrow; simp [ncells]; omega
    rw [if_pos rfl, if_pos hs, hg (k + 1) k (by omega), if_pos (Nat.lt_succ_self k)]
    simp [h]
  · rw [if_neg hj, hg k j (by omega), hg (k + 1) j (by omega)]
    by_cases h1 : j < k
    · rw [if_pos h1, if_pos (show j < k + 1 by omega)]
    · rw [if_neg h1, if_neg (show ¬ j < k + 1 by omega)]
theorem nrow_cell {W : World} {G k : Nat} {l : List Nat} {t : TypeId} (h : W.heap[G]? = some (.cells (nrow l k) t (0, 0))) (hk : k < l.length) : ∃ v, W.cell? ⟨G, k, none⟩ = some v := by
  rw [cell_of_row _ _ _ _ _ _ h]
  have hs : k < (nrow l k).size := by unfold nrow; simp [ncells]; omega
  exact ⟨_, Array.getElem?_eq_getElem hs⟩
end Go.Proofs.Ytihohljhjdmamaa
