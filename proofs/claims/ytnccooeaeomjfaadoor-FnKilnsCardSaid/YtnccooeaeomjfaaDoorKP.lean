/- Plain lemmas on kilns: lengths, sums, stages. No program is named here. -/
import Derived.Test.YtnccooeaeomjfaaDoorBase
namespace Go.Proofs.YtnccooeaeomjfaaDoor
open Go.RowKit

/-- Are these the lengths of five stages? -/
def lensOk (xs : List Int) : Bool := decide (xs.length = 5) && allIn xs 1 10
/-- Is this a valid kiln? -/
def okB (ch : Int) (xs : List Int) : Bool := inB ch 6 24 && lensOk xs && decide (sumL xs ≤ ch)
/-- The sum of the first k. -/
def psum (xs : List Int) (k : Nat) : Int := (xs.take k).sum
theorem psum_zero (xs : List Int) : psum xs 0 = 0 := by simp [psum]
theorem psum_succ {xs : List Int} {k : Nat} (h : k < xs.length) : psum xs (k + 1) = psum xs k + nth xs k := by
  rw [psum, take_snoc_nth h]; simp [psum, List.sum_append]
theorem lensOk_len {xs : List Int} (h : lensOk xs = true) : xs.length = 5 := by simp [lensOk] at h; exact h.1
theorem lensOk_all {xs : List Int} (h : lensOk xs = true) : allIn xs 1 10 = true := by simp [lensOk] at h; exact h.2
theorem lensOk_nth {xs : List Int} (h : lensOk xs = true) {k : Nat} (hk : k < 5) : 1 ≤ nth xs k ∧ nth xs k ≤ 10 :=
  allIn_nth (lensOk_all h) (by rw [lensOk_len h]; exact hk)
theorem psum_bound {xs : List Int} (h : lensOk xs = true) : ∀ k : Nat, k ≤ 5 → (k : Int) ≤ psum xs k ∧ psum xs k ≤ 10 * k := by
  intro k
  induction k with
  | zero => intro _; rw [psum_zero]; omega
  | succ k ih =>
    intro hk
    have h1 := ih (by omega)
    have h2 := lensOk_nth h (k := k) (by omega)
    rw [psum_succ (by rw [lensOk_len h]; omega)]
    omega
theorem sumL_take {xs : List Int} (h : lensOk xs = true) : ∀ k : Nat, k ≤ 5 → sumL (xs.take k) = psum xs k := by
  intro k
  induction k with
  | zero => intro _; simp [sumL, psum]
  | succ k ih =>
    intro hk
    have hl : k < xs.length := by rw [lensOk_len h]; omega
    have h1 := psum_bound h (k + 1) (by omega)
    rw [sumL_snoc hl, ih (by omega), ← psum_succ hl, IntWalk.wrap64_in _ (by omega)]
theorem sumL_all {xs : List Int} (h : lensOk xs = true) : sumL xs = psum xs 5 := by
  rw [← sumL_take h 5 (Nat.le_refl _), List.take_of_length_le (by rw [lensOk_len h]; exact Nat.le_refl _)]
theorem okB_parts {ch : Int} {xs : List Int} (h : okB ch xs = true) : 6 ≤ ch ∧ ch ≤ 24 ∧ lensOk xs = true ∧ psum xs 5 ≤ ch := by
  simp only [okB, Bool.and_eq_true, decide_eq_true_eq, inB_true] at h
  obtain ⟨⟨⟨h1, h2⟩, h3⟩, h4⟩ := h
  rw [sumL_all h3] at h4
  exact ⟨h1, h2, h3, h4⟩

/-- The stage of a phase: the first stage that ends behind it; 0 behind the last. -/
def stg : List Int → Int → Int → Int
  | [], _, _ => 0
  | x :: xs, p, i => if p < x then i + 1 else stg xs (p - x) (i + 1)
theorem drop_nth {xs : List Int} {k : Nat} (h : k < xs.length) : xs.drop k = nth xs k :: xs.drop (k + 1) := by
  rw [List.drop_eq_getElem_cons h, nth_lt h]
theorem stg_step {xs : List Int} {k : Nat} {p i : Int} (h : k < xs.length) : stg (xs.drop k) p i = if p < nth xs k then i + 1 else stg (xs.drop (k + 1)) (p - nth xs k) (i + 1) := by
  rw [drop_nth h]; rfl
theorem stg_end {xs : List Int} {k : Nat} {p i : Int} (h : xs.length ≤ k) : stg (xs.drop k) p i = 0 := by
  rw [List.drop_eq_nil_of_le h]; rfl
theorem stg_range : ∀ (xs : List Int) (p i : Int), 0 ≤ i → 0 ≤ stg xs p i ∧ stg xs p i ≤ i + xs.length := by
  intro xs
  induction xs with
  | nil => intro p i hi; simp [stg]; omega
  | cons x xs ih =>
    intro p i hi
    rw [stg]
    split
    · simp; omega
    · have := ih (p - x) (i + 1) (by omega)
      simp; omega

/-- Go's rest, made positive. -/
theorem mod_pos {a n : Int} (hn : 0 < n) : (a.tmod n + n).tmod n = a % n := by
  have h := Int.tmod_eq_emod (a := a) (b := n)
  have h0 := Int.emod_nonneg a (b := n) (by omega)
  have h2 := Int.emod_lt_of_pos a hn
  by_cases c : 0 ≤ a ∨ n ∣ a
  · rw [if_pos c] at h
    have e : a.tmod n = a % n := by omega
    rw [e, Int.tmod_eq_emod_of_nonneg (by omega)]; simp
  · rw [if_neg c] at h
    have e : a.tmod n = a % n - n := by omega
    rw [e, Int.tmod_eq_emod_of_nonneg (by omega)]
    have e2 : a % n - n + n = a % n := by omega
    rw [e2]; simp
theorem mod_pos' {a n : Int} (hn : 0 < n) : (a.tmod n + n) % n = a % n := by
  have b2 := Int.lt_tmod_of_pos a hn
  rw [← mod_pos (a := a) hn, Int.tmod_eq_emod_of_nonneg (a := a.tmod n + n) (by omega)]
end Go.Proofs.YtnccooeaeomjfaaDoor
