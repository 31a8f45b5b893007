/- Plain laws of the ring kiln: where a stage begins, how often a stage occurs in a ring. No program is named here. -/
import Derived.Test.YtnccooeaeomjfaaDoorKP
namespace Go.Proofs.YtnccooeaeomjfaaDoor
set_option linter.unusedVariables false

theorem lens_five {xs : List Int} (h : lensOk xs = true) : ∃ a b c d e : Int, xs = [a, b, c, d, e] ∧ 1 ≤ a ∧ 1 ≤ b ∧ 1 ≤ c ∧ 1 ≤ d ∧ 1 ≤ e := by
  have hl := lensOk_len h
  match xs, hl, h with
  | [a, b, c, d, e], _, h =>
    have h0 := lensOk_nth h (k := 0) (by omega)
    have h1 := lensOk_nth h (k := 1) (by omega)
    have h2 := lensOk_nth h (k := 2) (by omega)
    have h3 := lensOk_nth h (k := 3) (by omega)
    have h4 := lensOk_nth h (k := 4) (by omega)
    simp [nth] at h0 h1 h2 h3 h4
    exact ⟨a, b, c, d, e, rfl, h0.1, h1.1, h2.1, h3.1, h4.1⟩

/-- A phase is in a stage if it lies between the stage's beginning and its end. -/
theorem stg_iff {xs : List Int} (h : lensOk xs = true) {k : Nat} (hk : k < 5) {p : Int} (hp : 0 ≤ p) : stg xs p 0 = (k : Int) + 1 ↔ psum xs k ≤ p ∧ p < psum xs (k + 1) := by
  obtain ⟨a, b, c, d, e, rfl, ha, hb, hc, hd, he⟩ := lens_five h
  have hk5 : k = 0 ∨ k = 1 ∨ k = 2 ∨ k = 3 ∨ k = 4 := by omega
  rcases hk5 with rfl | rfl | rfl | rfl | rfl <;> simp [stg, psum] <;> (repeat' split) <;> omega
theorem stg_zero {xs : List Int} (h : lensOk xs = true) {p : Int} (hp : 0 ≤ p) : stg xs p 0 = 0 ↔ psum xs 5 ≤ p := by
  obtain ⟨a, b, c, d, e, rfl, ha, hb, hc, hd, he⟩ := lens_five h
  simp [stg, psum]; (repeat' split) <;> omega

/-- How many numbers below n a test holds of. -/
def cnt (f : Nat → Bool) : Nat → Nat
  | 0 => 0
  | n + 1 => cnt f n + (if f n then 1 else 0)
theorem cnt_ext {f g : Nat → Bool} : ∀ {n : Nat}, (∀ j, j < n → f j = g j) → cnt f n = cnt g n := by
  intro n
  induction n with
  | zero => intro _; rfl
  | succ n ih => intro h; rw [cnt, cnt, ih (fun j hj => h j (by omega)), h n (by omega)]
theorem cnt_front (f : Nat → Bool) : ∀ n : Nat, cnt f (n + 1) = (if f 0 then 1 else 0) + cnt (fun j => f (j + 1)) n := by
  intro n
  induction n with
  | zero => simp [cnt]
  | succ n ih => rw [cnt, ih, cnt]; omega
theorem cnt_rev (f : Nat → Bool) : ∀ n : Nat, cnt (fun j => f (n - 1 - j)) n = cnt f n := by
  intro n
  induction n generalizing f with
  | zero => rfl
  | succ n ih =>
    rw [cnt_front, cnt]
    have e : cnt (fun j => f (n + 1 - 1 - (j + 1))) n = cnt f n := by
      rw [← ih f]
      exact cnt_ext fun j hj => by congr 1; omega
    rw [e]
    simp; omega
/-- A ring that is turned keeps its count. -/
theorem cnt_turn (P : Int → Bool) (n : Nat) (hn : 0 < n) : ∀ s : Nat, cnt (fun c => P (((s : Int) - (c : Int)) % (n : Int))) n = cnt (fun p => P (p : Int)) n := by
  have step : ∀ s : Nat, cnt (fun c => P ((((s + 1 : Nat) : Int) - (c : Int)) % (n : Int))) n = cnt (fun c => P (((s : Int) - (c : Int)) % (n : Int))) n := by
    intro s
    obtain ⟨m, rfl⟩ : ∃ m, n = m + 1 := ⟨n - 1, by omega⟩
    rw [cnt_front, cnt]
    have e1 : cnt (fun j => P ((((s + 1 : Nat) : Int) - ((j + 1 : Nat) : Int)) % ((m + 1 : Nat) : Int))) m = cnt (fun c => P (((s : Int) - (c : Int)) % ((m + 1 : Nat) : Int))) m :=
      cnt_ext fun j _ => by congr 2; omega
    have e2 : (((s + 1 : Nat) : Int) - ((0 : Nat) : Int)) % ((m + 1 : Nat) : Int) = ((s : Int) - (m : Int)) % ((m + 1 : Nat) : Int) := by
      have h1 : ((s + 1 : Nat) : Int) - ((0 : Nat) : Int) = ((s : Int) - (m : Int)) + ((m + 1 : Nat) : Int) := by omega
      rw [h1, Int.add_emod_right]
    rw [e1, e2]; omega
  have all : ∀ s t : Nat, cnt (fun c => P ((((t + s : Nat) : Int) - (c : Int)) % (n : Int))) n = cnt (fun c => P (((t : Int) - (c : Int)) % (n : Int))) n := by
    intro s t
    induction s with
    | zero => rfl
    | succ s ih => rw [← ih]; exact step (t + s)
  intro s
  have h1 := all s 0
  have h2 := all (n - 1) 0
  rw [Nat.zero_add] at h1 h2
  rw [h1, ← h2]
  rw [← cnt_rev (fun p => P (p : Int)) n]
  refine cnt_ext fun j hj => ?_
  congr 1
  have e : ((n - 1 : Nat) : Int) - (j : Int) = ((n - 1 - j : Nat) : Int) := by omega
  rw [e]
  exact Int.emod_eq_of_lt (by omega) (by omega)
/-- The count of a range. -/
theorem cnt_range {f : Nat → Bool} {a b : Nat} (hab : a ≤ b) (h : ∀ j, f j = decide (a ≤ j ∧ j < b)) : ∀ {n : Nat}, b ≤ n → cnt f n = b - a := by
  have lo : ∀ n, n ≤ a → cnt f n = 0 := by
    intro n
    induction n with
    | zero => intro _; rfl
    | succ n ih => intro hn; rw [cnt, ih (by omega), h n, decide_eq_false (by omega)]; rfl
  have mid : ∀ k, a + k ≤ b → cnt f (a + k) = k := by
    intro k
    induction k with
    | zero => intro _; exact lo a (Nat.le_refl _)
    | succ k ih => intro hk; rw [show a + (k + 1) = (a + k) + 1 by omega, cnt, ih (by omega), h (a + k), decide_eq_true (by omega)]; rfl
  have hi : ∀ k, cnt f (b + k) = b - a := by
    intro k
    induction k with
    | zero => rw [show b + 0 = a + (b - a) by omega]; exact mid _ (by omega)
    | succ k ih => rw [show b + (k + 1) = (b + k) + 1 by omega, cnt, ih, h (b + k), decide_eq_false (by omega)]; rfl
  intro n hn
  rw [show n = b + (n - b) by omega]
  exact hi _
end Go.Proofs.YtnccooeaeomjfaaDoor
