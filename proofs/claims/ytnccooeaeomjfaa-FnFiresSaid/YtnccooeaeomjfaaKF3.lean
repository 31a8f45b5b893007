/- Plain laws of the ring kiln for the law on fires. No contract is named here. -/
import Derived.Test.YtnccooeaeomjfaaKF1
import Derived.Test.YtnccooeaeomjfaaK11
namespace Go.Proofs.Ytnccooeaeomjfaa
open Go.RowKit
set_option linter.unusedVariables false

theorem codeF_fits {ch : Int} {xs : List Int} {c s t : Int} (h : okB ch xs = true) (c0 : 0 ≤ c) (c1 : c < ch) (s0 : 0 ≤ s) (s1 : s ≤ 100000) (t0 : 0 ≤ t) (t1 : t ≤ 5) : codeF ch xs c s t = 0 := by
  rw [codeF_ok h, inB_true.2 (show 0 ≤ c ∧ c ≤ ch - 1 by omega), inB_true.2 (show 0 ≤ s ∧ s ≤ 100000 by omega), inB_true.2 (show 0 ≤ t ∧ t ≤ 5 by omega)]; rfl
theorem stageAtF_fits {ch : Int} {xs : List Int} {c s : Int} (h : okB ch xs = true) (c0 : 0 ≤ c) (c1 : c < ch) (s0 : 0 ≤ s) (s1 : s ≤ 100000) : stageAtF ch xs c s = (atF ch xs c s, 0) := by
  rw [stageAtF, if_pos (codeF_fits h c0 c1 s0 s1 (by omega) (by omega))]
/-- The told steps, and the stages at them and one step before. -/
theorem fires_steps {ch : Int} {xs : List Int} {x y z : Int} (h : okB ch xs = true) (x0 : 0 ≤ x) (x1 : x < 200) (y0 : 0 ≤ y) (y1 : y < ch) (z0 : 0 ≤ z) (z1 : z < 5) :
    ∃ n b, 0 ≤ n ∧ n < ch ∧ stepsF ch xs y (1 + x) (1 + z) = (n, 0) ∧ stageAtF ch xs y (1 + x + n) = (1 + z, 0) ∧ stageAtF ch xs y (1 + x + n - 1) = (b, 0) ∧ b ≠ 1 + z := by
  obtain ⟨t, rfl⟩ := Int.eq_ofNat_of_zero_le z0
  obtain ⟨_, h24, _, _⟩ := okB_parts h
  obtain ⟨n, n0, n1, hf, hn, ha, hb⟩ := steps_begin (c := y) (s := 1 + x) (t := t) h (by omega)
  rw [Int.add_comm (t : Int) 1] at hf hn ha hb
  refine ⟨n, _, n0, n1, ?_, ?_, stageAtF_fits h y0 y1 (by omega) (by omega), hb⟩
  · rw [stepsF, if_pos (codeF_fits h y0 y1 (by omega) (by omega) (by omega) (by omega)), if_neg hf, hn]
  · rw [stageAtF_fits h y0 y1 (by omega) (by omega), ha]
/-- The gap, the smallest ring with it, and the ring that is one smaller. -/
theorem fires_ring {ch : Int} {xs : List Int} (h : okB ch xs = true) :
    ∃ g r a b, fireGapF ch xs = (g, 0) ∧ 1 ≤ g ∧ g ≤ 24 ∧ ringF xs g = (r, 0) ∧ 1 ≤ r ∧ r ≤ ch ∧ (∃ o, fireGapF r xs = (o, 0) ∧ g ≤ o) ∧ fireGapF (r - 1) xs = (a, b) ∧ (b = 1 ∨ (b = 0 ∧ a < g)) := by
  obtain ⟨h6, h24, _, _⟩ := okB_parts h
  obtain ⟨g1, g2⟩ := gapF_bound (ch := ch) (xs := xs) (by omega)
  obtain ⟨k, k1, hr, hok, hg, hs⟩ := ring_own h
  by_cases e : okB (6 + (k : Int) - 1) xs = true
  · exact ⟨gapF ch xs, 6 + (k : Int), gapF (6 + (k : Int) - 1) xs, 0, by rw [fireGapF, if_pos h], g1, by omega, hr, by omega, k1, ⟨gapF (6 + (k : Int)) xs, by rw [fireGapF, if_pos hok], hg⟩, by rw [fireGapF, if_pos e], .inr ⟨rfl, hs e⟩⟩
  · exact ⟨gapF ch xs, 6 + (k : Int), 0, 1, by rw [fireGapF, if_pos h], g1, by omega, hr, by omega, k1, ⟨gapF (6 + (k : Int)) xs, by rw [fireGapF, if_pos hok], hg⟩, by rw [fireGapF, if_neg e], .inl rfl⟩
theorem bump_sum {ch : Int} {xs : List Int} {j : Nat} (h : okB ch xs = true) (hj : j < 5) (h2 : okB ch (bumpL xs j) = true) : sumL (bumpL xs j) = sumL xs + 1 := by
  obtain ⟨_, _, hL, _⟩ := okB_parts h
  obtain ⟨_, _, hL2, _⟩ := okB_parts h2
  rw [sumL_all hL, sumL_all hL2]
  obtain ⟨a, b, c, d, e, rfl, _⟩ := lens_five hL
  have hj5 : j = 0 ∨ j = 1 ∨ j = 2 ∨ j = 3 ∨ j = 4 := by omega
  rcases hj5 with rfl | rfl | rfl | rfl | rfl <;> simp [bumpL, psum, nth] <;> omega
theorem fires_stretch {ch : Int} {xs : List Int} {z : Int} (h : okB ch xs = true) (z0 : 0 ≤ z) (z1 : z < 5) :
    (∃ L, stretchN ch xs (1 + z) = ch ∧ stretchL ch xs (1 + z) = L ∧ stretchC ch xs (1 + z) = 0 ∧ okB ch L = true ∧ L.length = 5 ∧ sumL L = sumL xs + 1 ∧ sumL xs ≤ 24 ∧ 0 ≤ sumL xs) ∨ (stretchN ch xs (1 + z) = 0 ∧ stretchL ch xs (1 + z) = [] ∧ stretchC ch xs (1 + z) = 5) := by
  obtain ⟨t, rfl⟩ := Int.eq_ofNat_of_zero_le z0
  obtain ⟨_, h24, hL, hS⟩ := okB_parts h
  have e : (1 + (t : Int) - 1).toNat = t := by omega
  have hc : stretchC ch xs (1 + (t : Int)) = if okB ch (bumpL xs t) = true then 0 else 5 := by
    rw [stretchC, if_pos h, if_pos (inB_true.2 (by omega)), e]
  by_cases g : okB ch (bumpL xs t) = true
  · rw [if_pos g] at hc
    obtain ⟨s1, s2, s3⟩ := stretch_good hc
    rw [e] at s1
    have hb := psum_bound hL 5 (by omega)
    exact .inl ⟨_, s2, s1, s3, g, by rw [bumpL_len]; exact lensOk_len hL, bump_sum h (by omega) g, by rw [sumL_all hL]; omega, by rw [sumL_all hL]; omega⟩
  · rw [if_neg g] at hc
    obtain ⟨s1, s2, s3⟩ := stretch_bad hc (by omega)
    exact .inr ⟨s2, s1, s3⟩
end Go.Proofs.Ytnccooeaeomjfaa
