/- The first of some numbers with a property. No program is named here. -/
import Derived.Test.YtoghgbbepjpelaaDoorBase
namespace Go.Proofs.YtoghgbbepjpelaaDoor
open Go.RowKit
set_option linter.unusedVariables false

/-- The first k below n with p k; n if there is none. -/
def firstN (p : Nat → Bool) (n : Nat) : Nat := ((List.range n).find? p).getD n
theorem firstN_some {p : Nat → Bool} {n k : Nat} (hk : k < n) (h : p k = true) (hn : ∀ j, j < k → p j = false) : firstN p n = k := by
  have : (List.range n).find? p = some k := by
    rw [List.find?_range_eq_some]
    exact ⟨h, by simpa using hk, fun j hj => by simpa using hn j hj⟩
  rw [firstN, this]; rfl
theorem firstN_none {p : Nat → Bool} {n : Nat} (hn : ∀ j, j < n → p j = false) : firstN p n = n := by
  have : (List.range n).find? p = none := by
    rw [List.find?_range_eq_none]
    exact fun j hj => by simpa using hn j hj
  rw [firstN, this]; rfl
theorem firstN_le (p : Nat → Bool) (n : Nat) : firstN p n ≤ n := by
  rw [firstN]
  cases h : (List.range n).find? p with
  | none => exact Nat.le_refl _
  | some k =>
    rw [List.find?_range_eq_some] at h
    have := h.2.1
    simp only [List.mem_range] at this
    exact Nat.le_of_lt this
/-- None of the first k has a property. -/
def NoneB (p : Nat → Bool) (k : Nat) : Prop := ∀ j, j < k → p j = false
theorem NoneB.zero (p : Nat → Bool) : NoneB p 0 := fun j hj => absurd hj (by omega)
theorem NoneB.succ {p : Nat → Bool} {k : Nat} (h : NoneB p k) (hk : p k = false) : NoneB p (k + 1) := fun j hj => by
  rcases Nat.lt_or_ge j k with h1 | h1
  · exact h j h1
  · obtain rfl : j = k := by omega
    exact hk
end Go.Proofs.YtoghgbbepjpelaaDoor
