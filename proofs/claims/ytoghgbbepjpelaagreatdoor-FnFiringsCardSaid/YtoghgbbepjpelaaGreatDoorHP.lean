/- Plain lemmas on firings: counts, sums, first hours. No program is named here. -/
import Derived.Test.YtoghgbbepjpelaaGreatDoorBase
namespace Go.Proofs.YtoghgbbepjpelaaGreatDoor
open Go.RowKit
set_option linter.unusedVariables false

/-- Are these the degrees of a firing? -/
def firB (ds : List Int) : Bool := inB ds.length 1 200 && allIn ds 0 1300
theorem firB_parts {ds : List Int} (h : firB ds = true) : 1 ≤ ds.length ∧ ds.length ≤ 200 ∧ allIn ds 0 1300 = true := by
  simp only [firB, Bool.and_eq_true, inB_true] at h
  exact ⟨by omega, by omega, h.2⟩
theorem firB_nth {ds : List Int} (h : firB ds = true) {k : Nat} (hk : k < ds.length) : 0 ≤ nth ds k ∧ nth ds k ≤ 1300 := allIn_nth (firB_parts h).2.2 hk

/-- How many of the first k are at a level or above it. -/
def cntGe (ds : List Int) (lv : Int) : Nat → Int
  | 0 => 0
  | k + 1 => cntGe ds lv k + (if lv ≤ nth ds k then 1 else 0)
theorem cntGe_yes {ds : List Int} {lv : Int} {k : Nat} (h : lv ≤ nth ds k) : cntGe ds lv (k + 1) = cntGe ds lv k + 1 := by rw [cntGe, if_pos h]
theorem cntGe_no {ds : List Int} {lv : Int} {k : Nat} (h : ¬ lv ≤ nth ds k) : cntGe ds lv (k + 1) = cntGe ds lv k := by rw [cntGe, if_neg h, Int.add_zero]
theorem cntGe_bound (ds : List Int) (lv : Int) : ∀ k : Nat, 0 ≤ cntGe ds lv k ∧ cntGe ds lv k ≤ k := by
  intro k
  induction k with
  | zero => simp [cntGe]
  | succ k ih => rw [cntGe]; split <;> omega

/-- The sum of f over the first k places. -/
def sumTo (f : Nat → Int) : Nat → Int
  | 0 => 0
  | k + 1 => sumTo f k + f k
theorem sumTo_bound {f : Nat → Int} {m : Int} {n : Nat} (h : ∀ k, k < n → 0 ≤ f k ∧ f k ≤ m) : ∀ k : Nat, k ≤ n → 0 ≤ sumTo f k ∧ sumTo f k ≤ m * k := by
  intro k
  induction k with
  | zero => intro _; simp [sumTo]
  | succ k ih =>
    intro hk
    have h1 := ih (by omega)
    have h2 := h k (by omega)
    rw [sumTo]
    refine ⟨by omega, ?_⟩
    have : m * ((k + 1 : Nat) : Int) = m * k + m := by rw [Int.natCast_add, Int.mul_add]; simp
    omega
def heatAt (ds : List Int) (base : Int) (k : Nat) : Int := max (nth ds k - base) 0
def riseAt (ds : List Int) (k : Nat) : Int := max (nth ds (k + 1) - nth ds k) 0

/-- The first hour at which it cools too fast. -/
def coolP (ds : List Int) (most : Int) (j : Nat) : Bool := decide (most < nth ds j - nth ds (j + 1))
def coolF (ds : List Int) (most : Int) : Int := match (List.range (ds.length - 1)).find? (coolP ds most) with | some j => (j : Int) + 1 | none => -1
theorem coolF_some {ds : List Int} {most : Int} {k : Nat} (hk : k < ds.length - 1) (h : coolP ds most k = true) (hn : ∀ j, j < k → coolP ds most j = false) : coolF ds most = (k : Int) + 1 := by
  have : (List.range (ds.length - 1)).find? (coolP ds most) = some k := by
    rw [List.find?_range_eq_some]
    exact ⟨h, by simpa using hk, fun j hj => by simpa using hn j hj⟩
  rw [coolF, this]
theorem coolF_none {ds : List Int} {most : Int} (hn : ∀ j, j < ds.length - 1 → coolP ds most j = false) : coolF ds most = -1 := by
  have : (List.range (ds.length - 1)).find? (coolP ds most) = none := by
    rw [List.find?_range_eq_none]
    exact fun j hj => by simpa using hn j hj
  rw [coolF, this]

/-- b is the first of the hottest hours among the first n. -/
structure IsHot (ds : List Int) (n : Nat) (b : Nat) : Prop where
  lt : b < n
  all : ∀ j, j < n → nth ds j ≤ nth ds b
  first : ∀ j, j < b → nth ds j < nth ds b
theorem IsHot.unique {ds : List Int} {n b c : Nat} (h : IsHot ds n b) (k : IsHot ds n c) : b = c := by
  rcases Nat.lt_trichotomy b c with hl | hl | hl
  · have h1 := k.first b hl
    have h2 := h.all c k.lt
    omega
  · exact hl
  · have h1 := h.first c hl
    have h2 := k.all b h.lt
    omega
theorem IsHot.step_yes {ds : List Int} {n b : Nat} (h : IsHot ds n b) (hg : nth ds b < nth ds n) : IsHot ds (n + 1) n :=
  ⟨by omega, fun j hj => by
    rcases Nat.lt_or_ge j n with hl | hl
    · have := h.all j hl; omega
    · obtain rfl : j = n := by omega
      omega, fun j hj => by have := h.all j hj; omega⟩
theorem IsHot.step_no {ds : List Int} {n b : Nat} (h : IsHot ds n b) (hg : nth ds n ≤ nth ds b) : IsHot ds (n + 1) b :=
  ⟨by have := h.lt; omega, fun j hj => by
    rcases Nat.lt_or_ge j n with hl | hl
    · exact h.all j hl
    · obtain rfl : j = n := by omega
      exact hg, h.first⟩
end Go.Proofs.YtoghgbbepjpelaaGreatDoor
