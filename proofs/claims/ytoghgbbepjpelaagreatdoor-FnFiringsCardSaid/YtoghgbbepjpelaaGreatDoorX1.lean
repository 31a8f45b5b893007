/- The fastest firing as a machine of small steps. No program is named here. -/
import Derived.Test.YtoghgbbepjpelaaGreatDoorRHeatRule
import Derived.Test.YtoghgbbepjpelaaGreatDoorHR1
namespace Go.Proofs.YtoghgbbepjpelaaGreatDoor
open Go.RowKit
set_option linter.unusedVariables false

/-- Which rule, how many hours of it are held, the degrees so far, the degrees now. -/
structure Fs where
  k : Nat
  h : Nat
  out : List Int
  at_ : Int
def fsStep (xs : List HeatRule) (n : Nat) (s : Fs) : Fs :=
  if s.k < n then
    (if s.at_ < (nt xs s.k).Upto then ⟨s.k, s.h, s.out ++ [min (s.at_ + (nt xs s.k).Rise) (nt xs s.k).Upto], min (s.at_ + (nt xs s.k).Rise) (nt xs s.k).Upto⟩
     else if (s.h : Int) < (nt xs s.k).Hold then ⟨s.k, s.h + 1, s.out ++ [s.at_], s.at_⟩ else ⟨s.k + 1, 0, s.out, s.at_⟩)
  else s
def fsI (xs : List HeatRule) (n : Nat) (start : Int) : Nat → Fs
  | 0 => ⟨0, 0, [start], start⟩
  | i + 1 => fsStep xs n (fsI xs n start i)
theorem fs_climb {xs : List HeatRule} {n i k h : Nat} {start a : Int} {out : List Int} (hi : fsI xs n start i = ⟨k, h, out, a⟩) (hk : k < n) (ha : a < (nt xs k).Upto) :
    fsI xs n start (i + 1) = ⟨k, h, out ++ [min (a + (nt xs k).Rise) (nt xs k).Upto], min (a + (nt xs k).Rise) (nt xs k).Upto⟩ := by
  rw [fsI, hi, fsStep, if_pos hk, if_pos ha]
theorem fs_hold {xs : List HeatRule} {n i k h : Nat} {start a : Int} {out : List Int} (hi : fsI xs n start i = ⟨k, h, out, a⟩) (hk : k < n) (ha : ¬ a < (nt xs k).Upto) (hh : (h : Int) < (nt xs k).Hold) :
    fsI xs n start (i + 1) = ⟨k, h + 1, out ++ [a], a⟩ := by
  rw [fsI, hi, fsStep, if_pos hk, if_neg ha, if_pos hh]
theorem fs_next {xs : List HeatRule} {n i k h : Nat} {start a : Int} {out : List Int} (hi : fsI xs n start i = ⟨k, h, out, a⟩) (hk : k < n) (ha : ¬ a < (nt xs k).Upto) (hh : ¬ (h : Int) < (nt xs k).Hold) :
    fsI xs n start (i + 1) = ⟨k + 1, 0, out, a⟩ := by
  rw [fsI, hi, fsStep, if_pos hk, if_neg ha, if_neg hh]
theorem fs_stay {xs : List HeatRule} {n i : Nat} {start : Int} (hk : n ≤ (fsI xs n start i).k) : ∀ m, fsI xs n start (i + m) = fsI xs n start i := by
  intro m
  induction m with
  | zero => rfl
  | succ m ih => rw [← Nat.add_assoc, fsI, ih, fsStep, if_neg (by omega)]
theorem fs_grow (xs : List HeatRule) (n : Nat) (start : Int) (i : Nat) : ∀ m, (fsI xs n start i).out.length ≤ (fsI xs n start (i + m)).out.length := by
  intro m
  induction m with
  | zero => exact Nat.le_refl _
  | succ m ih =>
    rw [← Nat.add_assoc, fsI, fsStep]
    split
    · split
      · simp; omega
      · split
        · simp; omega
        · exact ih
    · exact ih
/-- More than so many hours. -/
def fsFull (xs : List HeatRule) (n : Nat) (start : Int) : Prop := ∃ i, 200 < (fsI xs n start i).out.length
noncomputable def fsEnd (xs : List HeatRule) (n : Nat) (start : Int) : List Int := open Classical in if h : ∃ i, n ≤ (fsI xs n start i).k then (fsI xs n start (Classical.choose h)).out else []
theorem fsEnd_eq {xs : List HeatRule} {n i k h : Nat} {start a : Int} {out : List Int} (hi : fsI xs n start i = ⟨k, h, out, a⟩) (hk : n ≤ k) : fsEnd xs n start = out := by
  have hx : ∃ i, n ≤ (fsI xs n start i).k := ⟨i, by rw [hi]; exact hk⟩
  unfold fsEnd
  rw [dif_pos hx]
  have hj := Classical.choose_spec hx
  generalize Classical.choose hx = j at hj ⊢
  have hik : n ≤ (fsI xs n start i).k := by rw [hi]; exact hk
  rcases Nat.le_total i j with h1 | h1
  · obtain ⟨m, rfl⟩ := Nat.exists_eq_add_of_le h1
    rw [fs_stay hik m, hi]
  · obtain ⟨m, rfl⟩ := Nat.exists_eq_add_of_le h1
    have := fs_stay hj m
    rw [← this, hi]
theorem fs_full {xs : List HeatRule} {n i k h : Nat} {start a : Int} {out : List Int} (hi : fsI xs n start i = ⟨k, h, out, a⟩) (hl : 200 < out.length) : fsFull xs n start := ⟨i, by rw [hi]; exact hl⟩
theorem fs_notFull {xs : List HeatRule} {n i k h : Nat} {start a : Int} {out : List Int} (hi : fsI xs n start i = ⟨k, h, out, a⟩) (hk : n ≤ k) (hl : out.length ≤ 200) : ¬ fsFull xs n start := by
  rintro ⟨j, hj⟩
  have hik : n ≤ (fsI xs n start i).k := by rw [hi]; exact hk
  rcases Nat.le_total i j with h1 | h1
  · obtain ⟨m, rfl⟩ := Nat.exists_eq_add_of_le h1
    rw [fs_stay hik m, hi] at hj
    exact absurd hj (by show ¬ 200 < out.length; omega)
  · obtain ⟨m, rfl⟩ := Nat.exists_eq_add_of_le h1
    have := fs_grow xs n start j m
    rw [hi] at this
    have h2 : (fsI xs n start j).out.length ≤ out.length := this
    omega
end Go.Proofs.YtoghgbbepjpelaaGreatDoor
