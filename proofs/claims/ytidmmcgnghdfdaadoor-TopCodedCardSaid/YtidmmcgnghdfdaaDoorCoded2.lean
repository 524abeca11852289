/- canon.Check at right lengths. -/
import Derived.Test.YtidmmcgnghdfdaaDoorCoded1
import Derived.Test.YtidmmcgnghdfdaaDoorCodedPlain
import Derived.Test.YtidmmcgnghdfdaaDoorShelf
namespace Go.Proofs.YtidmmcgnghdfdaaDoor
open Go.RowKit SortPlain PackPlain ZerosPlain
set_option linter.unusedVariables false

/-- how many of the first k lengths are none of 0 -/
def nzTo (X : List Nat) : Nat → Nat
  | 0 => 0
  | k + 1 => nzTo X k + if 0 < wt X k then 1 else 0
theorem nzTo_le (X : List Nat) : ∀ k, nzTo X k ≤ k
  | 0 => Nat.le_refl _
  | k + 1 => by have := nzTo_le X k; rw [nzTo]; split <;> omega
/-- right lengths: the codes take all room, or there is one, of one bit -/
structure CodeOk (X : List Nat) : Prop where
  pos : 0 < X.length
  len : X.length ≤ 512
  le : ∀ s, wt X s ≤ 15
  room : rs X X.length = 32768 ∨ (rs X X.length = 16384 ∧ nzTo X X.length = 1 ∧ 1 ∈ X)
theorem CodeOk.room_le {X : List Nat} (h : CodeOk X) : rs X X.length ≤ 32768 := by
  rcases h.room with h | h <;> omega

theorem contains_one (vx : Value) (X : List Nat) (w : World) (hx : IntsAt w vx X) (h1 : 1 ∈ X) (hl : X.length ≤ 512) :
    Calls Tryd.prog 53 #[vx, .int .i64 1] w fun e w' => e = .returned (.bool true) ∧ w' = w := by
  obtain ⟨ax, cx, rfl, _, hcx⟩ := hx
  have hp : 0 < X.length := List.length_pos_of_mem h1
  obtain ⟨g, rfl, _⟩ := hcx 0 hp
  have hz : (X.map (fun (n : Nat) => (n : Int))).length = X.length := by simp
  refine (Tryd.slices_Contains_int g 0 X.length cx (X.map (fun (n : Nat) => (n : Int))) 1 w (by rw [hz]; exact Nat.le_refl _) (by omega) (fun j hj => ?_)).mono ?_
  · rw [hz] at hj
    obtain ⟨g', h2, h3⟩ := hcx j hj
    injection h2 with h2
    injection h2 with h2
    subst h2
    rw [Nat.zero_add, h3]
    simp [List.getD, hj]
  · rintro e w' ⟨rfl, rfl⟩
    refine ⟨?_, rfl⟩
    congr 2
    rw [List.take_of_length_le (by rw [hz]; exact Nat.le_refl _), List.contains_iff_mem]
    exact List.mem_map.2 ⟨1, h1, rfl⟩

set_option maxRecDepth 100000 in
set_option maxHeartbeats 4000000 in
theorem check_any (vx : Value) (X : List Nat) (w : World) (hx : IntsAt w vx X) (hok : CodeOk X) :
    Calls Tryd.prog 41 #[vx] w fun e w' => e = .returned (.int .i64 0) ∧ w' = w := by
  have HR := Lib.hid (room_any vx X w hx hok.len (fun s _ => hok.le s) hok.room_le)
  have HN : Hid (1 ∈ X → Calls Tryd.prog 53 #[vx, .int .i64 1] w fun e w' => e = .returned (.bool true) ∧ w' = w) := fun h => contains_one vx X w hx h hok.len
  have Hroom := Lib.hid hok.room
  have HZ : Hid (∀ k, nzTo X k ≤ k) := nzTo_le X
  have hl := hok.len
  obtain ⟨ax, cx, rfl, _, hcx⟩ := hx
  have HC : Hid (∀ s, s < X.length → ∃ (g y : Nat), ax = some ⟨g, 0, none⟩ ∧ w.cell? ⟨g, s, none⟩ = some (.int .i64 (y : Nat)) ∧ y = wt X s) := fun s hs => by
    obtain ⟨g, h3, h4⟩ := hcx s hs
    have e2 : wt X s = X[s] := by unfold wt; simp [List.getD, hs]
    exact ⟨g, X[s], h3, h4, e2.symm⟩
  clear hok hcx
  obtain ⟨n0, hn0⟩ : ∃ n0, n0 = X.length := ⟨_, rfl⟩
  rw [← hn0] at HC HR HN Hroom hl ⊢
  have hl' : (n0 : Int) ≤ 512 := by omega
  clear hn0
  obtain ⟨r, hr⟩ : ∃ r, r = rs X n0 := ⟨_, rfl⟩
  rw [← hr] at HR Hroom
  clear hr
  go_enter Tryd.func41, Tryd.ntmps41
  go_wp2_with (first
    | (go_at_call 52; refine HR.out.mono ?_; rintro e w1 ⟨rfl, hw1⟩; obtain rfl : w = w1 := hw1.symm)
    | fail)
  go_loopw [5, 17] (fun sv iv wr => ∃ (k : Nat), iv = .int .i64 (k : Nat) ∧ k ≤ n0 ∧ sv = .int .i64 (nzTo X k : Nat) ∧ wr = w) (fun _ iv _ => n0 - (intOf iv).toNat)
  case atStart => exact ⟨0, rfl, Nat.zero_le _, rfl, rfl⟩
  case round =>
    obtain ⟨k, rfl, hk, rfl, hwr⟩ := hrel
    obtain rfl : w = wr := hwr.symm
    by_cases hlt : k < n0
    · obtain ⟨g, y, rfl, c1, hy⟩ := HC.out k hlt
      have hz := HZ.out k
      have hki : (k : Int) < (n0 : Int) := by omega
      have hS : nzTo X (k + 1) = nzTo X k + if 0 < y then 1 else 0 := by rw [hy]; rfl
      obtain ⟨z, hz0⟩ : ∃ z, z = nzTo X k := ⟨_, rfl⟩
      rw [← hz0] at hz hS ⊢
      have HS := Lib.hid hS
      clear hS hy hz0
      by_cases hy0 : y = 0
      · subst hy0
        go_wp2_with fail
        exact ⟨⟨k + 1, by rw [Int.natCast_add]; rfl, by omega, by rw [HS.out, if_neg (by omega)]; rfl, trivial⟩, by simp [intOf]; omega⟩
      · have hyp : (0 : Int) < (y : Int) := by omega
        go_wp2_with fail
        exact ⟨⟨k + 1, by rw [Int.natCast_add]; rfl, by omega, by rw [HS.out, if_pos (by omega)]; rfl, trivial⟩, by simp [intOf]; omega⟩
    · obtain rfl : k = n0 := by omega
      rcases Hroom.out with h | ⟨h, h2, h3⟩
      · obtain rfl := h
        go_wp2_with fail
        go_ret
        exact ⟨rfl, rfl⟩
      · have HN2 := Lib.hid (HN.out h3)
        obtain rfl := h
        rw [h2]
        clear h2 h3
        go_wp2_with (first
          | (go_at_call 53; refine HN2.out.mono ?_; rintro e w1 ⟨rfl, hw1⟩; obtain rfl : w = w1 := hw1.symm)
          | fail)
        go_ret
        exact ⟨rfl, rfl⟩
end Go.Proofs.YtidmmcgnghdfdaaDoor
