/- The contracts of the laws' own helpers: a2At, a2Sum, a2Rises, a2Has. -/
import Derived.Test.YtnccooeaeomjfaaRows
import Derived.Test.YtnccooeaeomjfaaBp
namespace Go.Proofs.Ytnccooeaeomjfaa
open Go.RowKit
set_option linter.unusedVariables false

/-- A number from 0 to below N. -/
def AtC (N : Int) (w : World) (e : Ending) (w' : World) : Prop := ∃ x : Int, e = .returned (.int .i64 x) ∧ 0 ≤ x ∧ x < N ∧ w = w'
theorem a2At_any (A : Option Addr) (n c : Nat) (i : Int) (N : Int) (w : World) (h : Bys w A n) (hi0 : 0 ≤ i) (hi : i ≤ 1000) (hN : 1 ≤ N) (hN2 : N ≤ 1000000) :
    Calls Try.prog 42 #[.slice A n c, .int .i64 i, .int .i64 N] w (AtC N w) := by
  have hn := h.1
  obtain ⟨i, rfl⟩ := Int.eq_ofNat_of_zero_le hi0
  by_cases g : (i : Int) ≥ n
  · go_enter Try.func42, Try.ntmps42
    go_wp2
    go_ret
    exact ⟨0, rfl, by omega, by omega, rfl⟩
  · obtain ⟨b, off, rfl, hb, hc⟩ := h.2 (by omega)
    obtain ⟨v, hv0, hv1, hcv⟩ := hc i (by omega)
    clear hc h
    have hr0 : 0 ≤ v % N := Int.emod_nonneg _ (by omega)
    have hr1 : v % N < N := Int.emod_lt_of_pos _ (by omega)
    have hN3 : ¬ N < 1 := by omega
    have hN4 : 0 < N := by omega
    go_enter Try.func42, Try.ntmps42
    go_wp2
    go_ret
    exact ⟨v % N, rfl, hr0, hr1, rfl⟩

theorem a2Sum_any (A : Option Addr) (n c : Nat) (xs : List Int) (w : World) (hA : Ints w A n xs) :
    Calls Try.prog 43 #[.slice A n c] w fun e w' => e = .returned (.int .i64 (sumL xs)) ∧ w = w' := by
  have hn := hA.bound
  go_enter Try.func43, Try.ntmps43
  go_wp2
  go_loop [3, 4] (fun s i => ∃ j : Nat, j ≤ n ∧ i = .int .i64 j ∧ s = .int .i64 (sumL (xs.take j))) (fun _ i => n - (intOf i).toNat)
  case atStart => exact ⟨0, Nat.zero_le _, rfl, by simp [sumL]⟩
  case round =>
    obtain ⟨j, hj, rfl, rfl⟩ := hrel
    by_cases hlt : j < n
    · obtain ⟨b, off, rfl, hb, hc⟩ := hA.cell (by omega)
      have hck := hc j hlt
      have hs := sumL_snoc (xs := xs) (k := j) (by rw [hA.len]; exact hlt)
      clear hc
      go_wp2
      go_round
      case rel => exact ⟨j + 1, by omega, by go_num, by rw [hs]⟩
      case measure => simp [intOf]; omega
    · obtain rfl : j = n := by omega
      have hT := Lib.hid (show xs.take j = xs from List.take_of_length_le (by rw [hA.len]; exact Nat.le_refl _))
      go_wp2
      go_ret
      exact ⟨ret_int (by rw [hT.out]), rfl⟩


end Go.Proofs.Ytnccooeaeomjfaa
