/- Plain laws of the ring kiln: the gap of the fire, the smallest ring, the steps until a stage. No contract is named here. -/
import Derived.Test.YtnccooeaeomjfaaK9
import Derived.Test.YtnccooeaeomjfaaK5
import Derived.Test.YtnccooeaeomjfaaKF0
namespace Go.Proofs.Ytnccooeaeomjfaa
open Go.RowKit
set_option linter.unusedVariables false

theorem hitB_ne {xs : List Int} {a b : Int} (h : hitB xs a b = true) : a ≠ b := fun e => by
  subst e
  simp only [hitB, Bool.and_eq_true, Bool.or_eq_true, beq_iff_eq] at h
  omega
theorem gapStep_bound {ch : Int} {xs : List Int} {a b acc : Int} (ha0 : 0 ≤ a) (ha : a < ch) (hb0 : 0 ≤ b) (hb : b < ch) (h : 1 ≤ acc ∧ acc ≤ ch) : 1 ≤ gapStep ch xs a b acc ∧ gapStep ch xs a b acc ≤ ch := by
  by_cases hh : hitB xs a b = true
  · have hn := hitB_ne hh
    rw [gapStep_yes hh]
    omega
  · rw [gapStep_no (by simpa using hh)]; exact h
theorem gapIn_bound {ch : Int} {xs : List Int} {a acc : Int} (ha0 : 0 ≤ a) (ha : a < ch) (h : 1 ≤ acc ∧ acc ≤ ch) : ∀ k : Nat, (k : Int) ≤ ch → 1 ≤ gapIn ch xs a acc k ∧ gapIn ch xs a acc k ≤ ch := by
  intro k
  induction k with
  | zero => intro _; exact h
  | succ k ih => intro hk; rw [gapIn_succ]; exact gapStep_bound ha0 ha (by omega) (by omega) (ih (by omega))
theorem gapOut_bound {ch : Int} {xs : List Int} (h6 : 1 ≤ ch) : ∀ k : Nat, (k : Int) ≤ ch → 1 ≤ gapOut ch xs k ∧ gapOut ch xs k ≤ ch := by
  intro k
  induction k with
  | zero => intro _; exact ⟨h6, Int.le_refl _⟩
  | succ k ih => intro hk; exact gapIn_bound (by omega) (by omega) (ih (by omega)) _ (by omega)
theorem gapF_bound {ch : Int} {xs : List Int} (h6 : 1 ≤ ch) : 1 ≤ gapF ch xs ∧ gapF ch xs ≤ ch := gapOut_bound h6 _ (by omega)

theorem ring_own {ch : Int} {xs : List Int} (h : okB ch xs = true) :
    ∃ k : Nat, 6 + (k : Int) ≤ ch ∧ ringF xs (gapF ch xs) = (6 + (k : Int), 0) ∧ okB (6 + (k : Int)) xs = true ∧ gapF ch xs ≤ gapF (6 + (k : Int)) xs ∧
      (okB (6 + (k : Int) - 1) xs = true → gapF (6 + (k : Int) - 1) xs < gapF ch xs) := by
  obtain ⟨h6, h24, hL, hS⟩ := okB_parts h
  obtain ⟨g1, g2⟩ := gapF_bound (ch := ch) (xs := xs) (by omega)
  have hg : (lensOk xs && inB (gapF ch xs) 1 24) = true := by rw [hL, inB_true.2 (by omega)]; rfl
  have own : ringP xs (gapF ch xs) (ch - 6).toNat = true := by
    have e : 6 + (((ch - 6).toNat : Nat) : Int) = ch := by omega
    rw [ringP, e, h]; simp
  cases hf : (List.range 19).find? (ringP xs (gapF ch xs)) with
  | none =>
    rw [List.find?_range_eq_none] at hf
    have := hf (ch - 6).toNat (by omega)
    rw [own] at this; simp at this
  | some k =>
    rw [List.find?_range_eq_some] at hf
    obtain ⟨hp, hk, hn⟩ := hf
    have hk' : k < 19 := by simpa using hk
    have hle : k ≤ (ch - 6).toNat := by
      rcases Nat.lt_or_ge (ch - 6).toNat k with hlt | hge
      · have := hn _ hlt; rw [own] at this; simp at this
      · exact hge
    have hp' := hp
    simp only [ringP, Bool.and_eq_true, decide_eq_true_eq] at hp'
    refine ⟨k, by omega, ringF_some hg hk' hp (fun j hj => by simpa using hn j hj), hp'.1, hp'.2, fun hok => ?_⟩
    have hk1 : 1 ≤ k := by
      have := (okB_parts hok).1
      omega
    have h1 := hn (k - 1) (by omega)
    have e : 6 + (((k - 1 : Nat)) : Int) = 6 + (k : Int) - 1 := by omega
    simp only [ringP, e, hok, Bool.true_and, Bool.not_eq_true', decide_eq_false_iff_not] at h1
    omega

/-- After the steps that are told the stage begins, and it does not before. -/
theorem steps_begin {ch : Int} {xs : List Int} {c s : Int} {t : Nat} (h : okB ch xs = true) (ht : t < 5) :
    ∃ n : Int, 0 ≤ n ∧ n < ch ∧ firstF xs ((t : Int) + 1) ≠ ch ∧ (firstF xs ((t : Int) + 1) - (s - c)) % ch = n ∧ atF ch xs c (s + n) = (t : Int) + 1 ∧ atF ch xs c (s + n - 1) ≠ (t : Int) + 1 := by
  obtain ⟨h6, h24, hL, hS⟩ := okB_parts h
  have hfi : firstF xs ((t : Int) + 1) = psum xs t := by
    rw [firstF, if_neg (by omega), show ((t : Int) + 1 - 1).toNat = t by omega]
  have b0 := psum_bound hL t (by omega)
  have b1 := lensOk_nth hL ht
  have b2 := psum_succ (xs := xs) (k := t) (by rw [lensOk_len hL]; exact ht)
  have b3 := psum_mono hL (k := t + 1) (by omega)
  have b4 := psum_bound hL 5 (by omega)
  have n0 := Int.emod_nonneg (psum xs t - (s - c)) (b := ch) (by omega)
  have n1 := Int.emod_lt_of_pos (psum xs t - (s - c)) (b := ch) (by omega)
  refine ⟨(psum xs t - (s - c)) % ch, n0, n1, by rw [hfi]; omega, by rw [hfi], ?_, ?_⟩
  · have e : (s + (psum xs t - (s - c)) % ch - c) % ch = psum xs t := by
      have e1 : s + (psum xs t - (s - c)) % ch - c = (s - c) + (psum xs t - (s - c)) % ch := by omega
      rw [e1, Int.add_emod_emod]
      have e2 : s - c + (psum xs t - (s - c)) = psum xs t := by omega
      rw [e2]
      exact Int.emod_eq_of_lt (by omega) (by omega)
    rw [atF, e]
    exact (stg_iff hL ht (by omega)).2 (by omega)
  · have e : (s + (psum xs t - (s - c)) % ch - 1 - c) % ch = (psum xs t - 1) % ch := by
      have e1 : s + (psum xs t - (s - c)) % ch - 1 - c = (s - c - 1) + (psum xs t - (s - c)) % ch := by omega
      rw [e1, Int.add_emod_emod]
      congr 1; omega
    rw [atF, e]
    intro hst
    have m0 := Int.emod_nonneg (psum xs t - 1) (b := ch) (by omega)
    have h1 := (stg_iff hL ht m0).1 hst
    by_cases hz : psum xs t = 0
    · have e2 : (psum xs t - 1) % ch = ch - 1 := by
        rw [hz]
        have : ((0 : Int) - 1) = (ch - 1) + (-1) * ch := by omega
        rw [this, Int.add_mul_emod_self_right]
        exact Int.emod_eq_of_lt (by omega) (by omega)
      have ht0 : t = 0 := by omega
      subst ht0
      have b5 := psum_bound hL 1 (by omega)
      have q1 := psum_succ (xs := xs) (k := 1) (by rw [lensOk_len hL]; omega)
      have q2 := lensOk_nth hL (k := 1) (by omega)
      have q3 := psum_mono hL (k := 2) (by omega)
      simp only [Nat.zero_add, Nat.reduceAdd] at h1 q1
      omega
    · have e2 : (psum xs t - 1) % ch = psum xs t - 1 := Int.emod_eq_of_lt (by omega) (by omega)
      omega
end Go.Proofs.Ytnccooeaeomjfaa
