/- What sorts cost: plain. -/
import Derived.Test.YtiocmggnmggapaaKit
namespace Go.Proofs.Ytiocmggnmggapaa.CostPlain
set_option linter.unusedVariables false

def szC (b wd : Int) : Int := if b < 24 then 9 else if 256 < b ∨ wd < 1 ∨ 8 < wd then 1 else 0
def szN (b wd : Int) : Nat := if szC b wd = 0 then 64 * (b.toNat - 8) / (5 * wd.toNat) else 0
def mnC (b wd : Int) (c : Nat) : Int := if szC b wd ≠ 0 then szC b wd else if 65536 < c then 1 else 0
def mnN (b wd : Int) (c : Nat) : Nat := if mnC b wd c = 0 then (c + szN b wd - 1) / szN b wd else 0
def fnC (b : Int) : Int := if b < 24 then 9 else if 256 < b then 1 else 0
def fnN (b : Int) : Nat := if fnC b = 0 then b.toNat - 6 else 0
def each (wd : Nat) : Nat := if wd = 0 then 1 else 5 * wd
def ndC (wd : Int) (c : Nat) : Int := if wd < 0 ∨ 8 < wd ∨ 65536 < c then 1 else 0
def ndN (wd : Int) (c : Nat) : Nat := if ndC wd c = 0 then 1 + (each wd.toNat * c + 63) / 64 else 0
def nm (c : Nat) : Nat := (c + 1) / 3 + (if c % 3 = 1 then 1 else 0) + c / 3
def nmC (c : Nat) : Int := if 65536 < c then 1 else 0
def nmN (c : Nat) : Nat := if nmC c = 0 then nm c else 0
def bs (b : Int) : Nat := 64 * (b.toNat - 8) / 40
def lvC (b : Int) (c : Nat) : Int := if b < 24 then 9 else if 256 < b ∨ 65536 < c then 1 else 0
theorem nm_lt {c : Nat} (h : 2 ≤ c) : nm c < c := by unfold nm; split <;> omega
theorem nm_le {c : Nat} : nm c ≤ c := by unfold nm; split <;> omega
theorem nm_mono {c d : Nat} (h : c ≤ d) : nm c ≤ nm d := by
  have key : ∀ c, nm c ≤ nm (c + 1) := fun c => by unfold nm; split <;> split <;> omega
  induction d with
  | zero => simp at h; subst h; exact Nat.le_refl _
  | succ d ih =>
    rcases Nat.lt_or_eq_of_le h with h1 | h1
    · exact Nat.le_trans (ih (by omega)) (key d)
    · rw [h1]; exact Nat.le_refl _
/-- the levels' numbers -/
def lvs (B c : Nat) : List Nat := if h : B < c ∧ 2 ≤ c then c :: lvs B (nm c) else [c]
termination_by c
decreasing_by exact nm_lt h.2
def lvn (B c : Nat) : Nat := if h : B < c ∧ 2 ≤ c then lvn B (nm c) + 1 else 0
termination_by c
decreasing_by exact nm_lt h.2
theorem lvs_length (B c : Nat) : (lvs B c).length = lvn B c + 1 := by
  induction c using Nat.strongRecOn with
  | _ c ih =>
    rw [lvs, lvn]
    split
    · rename_i h; rw [List.length_cons, ih _ (nm_lt h.2)]
    · rfl
/-- the logarithm, rounded up -/
def lg (k n : Nat) : Nat := if h : 1 < n ∧ 2 ≤ k then lg k ((n - 1) / k + 1) + 1 else 0
termination_by n
decreasing_by
  have h1 : (n - 1) / k < n - 1 := Nat.div_lt_self (by omega) (by omega)
  omega
def lgC (k n : Nat) : Int := if k < 2 ∨ n = 0 then 1 else 0
def lgN (k n : Nat) : Nat := if lgC k n = 0 then lg k n else 0
theorem lg_step {k n : Nat} (h : 1 < n) (hk : 2 ≤ k) : lg k n = lg k ((n - 1) / k + 1) + 1 := by rw [lg, dif_pos ⟨h, hk⟩]
theorem lg_one (k n : Nat) (h : n ≤ 1) : lg k n = 0 := by rw [lg, dif_neg (by omega)]
theorem lg_le (k n : Nat) : lg k n ≤ n := by
  induction n using Nat.strongRecOn with
  | _ n ih =>
    rw [lg]
    split
    · rename_i h
      have h1 : (n - 1) / k < n - 1 := Nat.div_lt_self (by omega) (by omega)
      have := ih ((n - 1) / k + 1) (by omega)
      omega
    · omega
theorem lg_lt64 (k n : Nat) (hn : n < 18446744073709551616) : lg k n ≤ 64 := by
  have key : ∀ j n, n ≤ 2 ^ j → lg k n ≤ j := fun j => by
    induction j with
    | zero => intro n h; rw [lg_one k n (by simpa using h)]; exact Nat.le_refl _
    | succ j ih =>
      intro n h
      rw [lg]
      split
      · rename_i h1
        have h2 : (n - 1) / k ≤ (n - 1) / 2 := Nat.div_le_div_left h1.2 (by omega)
        have h3 : (n - 1) / k + 1 ≤ 2 ^ j := by rw [Nat.pow_succ] at h; omega
        have := ih _ h3
        omega
      · omega
  exact key 64 n (by omega)
def psC (b f : Int) : Int := if fnC b ≠ 0 then fnC b else if f < 0 ∨ 65536 < f then 1 else 0
def psN (b f : Int) : Nat := if psC b f = 0 then lg (fnN b) f.toNat else 0
end Go.Proofs.Ytiocmggnmggapaa.CostPlain
