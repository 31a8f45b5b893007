/- Plain laws of a firing's heat: more hours above a lesser level, the work above a level one less, the work above nothing. No contract is named here. -/
import Derived.Test.YtoghgbbepjpelaaH1
import Derived.Test.YtoghgbbepjpelaaH2
namespace Go.Proofs.Ytoghgbbepjpelaa
open Go.RowKit
set_option linter.unusedVariables false

theorem cntGe_less {ds : List Int} {lv : Int} : ∀ k, cntGe ds lv k ≤ cntGe ds (lv - 1) k := by
  intro k
  induction k with
  | zero => exact Int.le_refl _
  | succ k ih => rw [cntGe, cntGe]; split <;> split <;> omega
theorem work_less {ds : List Int} {lv : Int} : ∀ k, sumTo (heatAt ds (lv - 1)) k = sumTo (heatAt ds lv) k + cntGe ds lv k := by
  intro k
  induction k with
  | zero => simp [sumTo, cntGe]
  | succ k ih => rw [sumTo, sumTo, cntGe, ih, heatAt, heatAt]; split <;> omega
theorem work_zero {ds : List Int} (h : firB ds = true) : ∀ k, k ≤ ds.length → sumTo (heatAt ds 0) k = sumL (ds.take k) ∧ 0 ≤ sumL (ds.take k) ∧ sumL (ds.take k) ≤ 1300 * k := by
  obtain ⟨_, h2, _⟩ := firB_parts h
  intro k
  induction k with
  | zero => intro _; simp [sumTo, sumL]
  | succ k ih =>
    intro hk
    obtain ⟨e, b0, b1⟩ := ih (by omega)
    have hb := firB_nth h (k := k) (by omega)
    rw [sumL_snoc (by omega), sumTo, e, heatAt]
    rw [IntWalk.wrap64_in _ (by omega)]
    omega
theorem work_sum {ds : List Int} (h : firB ds = true) : workFv ds 0 = sumL ds := by
  have := (work_zero h ds.length (Nat.le_refl _)).1
  rwa [List.take_of_length_le (Nat.le_refl _)] at this
theorem cool_cases (ds : List Int) (most : Int) : coolF ds most = -1 ∨ ∃ j : Nat, j + 1 < ds.length ∧ coolF ds most = (j : Int) + 1 ∧ most < nth ds j - nth ds (j + 1) := by
  unfold coolF
  cases hf : (List.range (ds.length - 1)).find? (coolP ds most) with
  | none => exact .inl rfl
  | some j =>
    rw [List.find?_range_eq_some] at hf
    obtain ⟨hp, hj, _⟩ := hf
    have hj' : j < ds.length - 1 := by simpa using hj
    exact .inr ⟨j, by omega, rfl, by simpa [coolP] using hp⟩
end Go.Proofs.Ytoghgbbepjpelaa
