/- The contracts of the small functions: within, l00In, sumOf, l17Sum, l17Lengths. -/
import Derived.Test.YtnccooeaeomjfaaRows
import Derived.Test.YtnccooeaeomjfaaBase
import Derived.Test.YtnccooeaeomjfaaKP
namespace Go.Proofs.Ytnccooeaeomjfaa
open Go.RowKit
set_option linter.unusedVariables false

theorem within_any (n lo hi : Int) (w : World) :
    Calls Try.prog 46 #[.int .i64 n, .int .i64 lo, .int .i64 hi] w fun e w' => e = .returned (.bool (inB n lo hi)) ∧ w = w' := by
  have h : inB n lo hi = (decide (lo ≤ n) && decide (n ≤ hi)) := by simp [inB]
  rw [h]; clear h
  go_enter Try.func46, Try.ntmps46
  go_wp2
  all_goals (go_ret; exact ⟨ret_bool (by simp [*]; try omega), rfl⟩)
theorem in_any (n lo hi : Int) (w : World) :
    Calls Try.prog 53 #[.int .i64 n, .int .i64 lo, .int .i64 hi] w fun e w' => e = .returned (.bool (inB n lo hi)) ∧ w = w' := by
  have h : inB n lo hi = (decide (lo ≤ n) && decide (n ≤ hi)) := by simp [inB]
  rw [h]; clear h
  go_enter Try.func53, Try.ntmps53
  go_wp2
  all_goals (go_ret; exact ⟨ret_bool (by simp [*]; try omega), rfl⟩)
theorem sumOf_any (A : Option Addr) (n c : Nat) (xs : List Int) (w : World) (hA : Ints w A n xs) :
    Calls Try.prog 48 #[.slice A n c] w fun e w' => e = .returned (.int .i64 (sumL xs)) ∧ w = w' := by
  have hn := hA.bound
  go_enter Try.func48, Try.ntmps48
  go_wp2
  go_loop [3, 8] (fun s i => ∃ k : Nat, k ≤ n ∧ i = .int .i64 k ∧ s = .int .i64 (sumL (xs.take k))) (fun _ i => n - (intOf i).toNat)
  case atStart => exact ⟨0, Nat.zero_le _, rfl, rfl⟩
  case round =>
    obtain ⟨k, hk, rfl, rfl⟩ := hrel
    by_cases hlt : k < n
    · obtain ⟨b, off, rfl, hb, hc⟩ := hA.cell (by omega)
      have hck := hc k hlt
      have S := Lib.hid (sumL_snoc (xs := xs) (k := k) (by rw [hA.len]; exact hlt))
      clear hc
      go_wp2
      go_round
      case rel => exact ⟨k + 1, by omega, by go_num, by rw [S.out]⟩
      case measure => simp [intOf]; omega
    · go_wp2
      go_ret
      exact ⟨ret_int (by rw [List.take_of_length_le (by rw [hA.len]; omega)]), rfl⟩
theorem l17Sum_any (A : Option Addr) (n c : Nat) (xs : List Int) (w : World) (hA : Ints w A n xs) :
    Calls Try.prog 66 #[.slice A n c] w fun e w' => e = .returned (.int .i64 (sumL xs)) ∧ w = w' := by
  have hn := hA.bound
  go_enter Try.func66, Try.ntmps66
  go_wp2
  go_loop [3, 4] (fun s i => ∃ k : Nat, k ≤ n ∧ i = .int .i64 k ∧ s = .int .i64 (sumL (xs.take k))) (fun _ i => n - (intOf i).toNat)
  case atStart => exact ⟨0, Nat.zero_le _, rfl, rfl⟩
  case round =>
    obtain ⟨k, hk, rfl, rfl⟩ := hrel
    by_cases hlt : k < n
    · obtain ⟨b, off, rfl, hb, hc⟩ := hA.cell (by omega)
      have hck := hc k hlt
      have S := Lib.hid (sumL_snoc (xs := xs) (k := k) (by rw [hA.len]; exact hlt))
      clear hc
      go_wp2
      go_round
      case rel => exact ⟨k + 1, by omega, by go_num, by rw [S.out]⟩
      case measure => simp [intOf]; omega
    · go_wp2
      go_ret
      exact ⟨ret_int (by rw [List.take_of_length_le (by rw [hA.len]; omega)]), rfl⟩
theorem l17Lengths_any (A : Option Addr) (n c : Nat) (xs : List Int) (w : World) (hA : Ints w A n xs) :
    Calls Try.prog 52 #[.slice A n c] w fun e w' => e = .returned (.bool (lensOk xs)) ∧ w = w' := by
  have hn := hA.bound
  go_enter Try.func52, Try.ntmps52
  go_wp2
  go_loop [3] (fun i => ∃ k : Nat, k ≤ n ∧ i = .int .i64 k ∧ allIn (xs.take k) 1 10 = true) (fun i => n - (intOf i).toNat)
  case atStart => exact ⟨0, Nat.zero_le _, rfl, rfl⟩
  case round =>
    obtain ⟨k, hk, rfl, hall⟩ := hrel
    have HA := Lib.hid hall; clear hall
    by_cases hlt : k < n
    · obtain ⟨b, off, rfl, hb, hc⟩ := hA.cell (by omega)
      have hck := hc k hlt
      have hlx : k < xs.length := by rw [hA.len]; exact hlt
      clear hc
      go_wp2_with (go_at_call 53; refine (in_any _ _ _ _).mono ?_; rintro e w' ⟨rfl, rfl⟩)
      · rename_i hf
        go_ret
        exact ⟨ret_bool (by rw [lensOk, allIn_false hlx (by simpa using hf)]; simp), rfl⟩
      · rename_i hf
        go_round
        case rel => exact ⟨k + 1, by omega, by go_num, by rw [allIn_take hlx, HA.out]; simpa using hf⟩
        case measure => simp [intOf]; omega
    · go_wp2
      go_ret
      exact ⟨ret_bool (by
        have := HA.out; rw [List.take_of_length_le (by rw [hA.len]; omega)] at this
        rw [lensOk, this, hA.len, Bool.and_true, Bool.eq_iff_iff]; simp; omega), rfl⟩
end Go.Proofs.Ytnccooeaeomjfaa
