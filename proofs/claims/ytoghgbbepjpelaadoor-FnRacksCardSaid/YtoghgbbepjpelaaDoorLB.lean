/- The contracts of the later laws' own helpers: f6big, f6sum, f6ints. -/
import Derived.Test.YtoghgbbepjpelaaDoorRows
import Derived.Test.YtoghgbbepjpelaaDoorBp
namespace Go.Proofs.YtoghgbbepjpelaaDoor
open Go.RowKit
set_option linter.unusedVariables false

theorem f6big_yes (A : Option Addr) (n c : Nat) (w : World) (hn : n ≤ 9223372036854775807) (h : (4096 : Int) < n) :
    Calls Tryd.prog 11 #[.slice A n c] w fun e w' => e = .returned (.bool true) ∧ w = w' := by
  go_enter Tryd.func11, Tryd.ntmps11
  go_wp2
  go_ret
  exact ⟨ret_bool (by simp), rfl⟩
theorem f6big_no (A : Option Addr) (n c : Nat) (w : World) (h : ¬ (4096 : Int) < n) :
    Calls Tryd.prog 11 #[.slice A n c] w fun e w' => e = .returned (.bool false) ∧ w = w' := by
  go_enter Tryd.func11, Tryd.ntmps11
  go_wp2
  go_ret
  exact ⟨ret_bool (by simp), rfl⟩
theorem f6sum_any (A : Option Addr) (n c : Nat) (xs : List Int) (w : World) (hA : Ints w A n xs) :
    Calls Tryd.prog 30 #[.slice A n c] w fun e w' => e = .returned (.int .i64 (sumL xs)) ∧ w = w' := by
  have hn := hA.bound
  go_enter Tryd.func30, Tryd.ntmps30
  go_wp2
  go_loop [3, 4] (fun s i => ∃ j : Nat, j ≤ n ∧ i = .int .i64 j ∧ s = .int .i64 (sumL (xs.take j))) (fun _ i => n - (intOf i).toNat)
  case atStart => exact ⟨0, Nat.zero_le _, rfl, by simp [sumL]⟩
  case round =>
    obtain ⟨j, hj, rfl, rfl⟩ := hrel
    by_cases hlt : j < n
    · obtain ⟨b, off, rfl, hb, hc⟩ := hA.cell (by omega)
      have hck := hc j hlt
      have hs := sumL_snoc (xs := xs) (k := j) (by rw [hA.len]; exact hlt)
      clear hc
      go_wp2
      go_round
      case rel => exact ⟨j + 1, by omega, by go_num, by rw [hs]⟩
      case measure => simp [intOf]; omega
    · obtain rfl : j = n := by omega
      have hT := Lib.hid (show xs.take j = xs from List.take_of_length_le (by rw [hA.len]; exact Nat.le_refl _))
      go_wp2
      go_ret
      exact ⟨ret_int (by rw [hT.out]), rfl⟩
theorem f6ints_yes (A : Option Addr) (n c : Nat) (B : Option Addr) (m d : Nat) (xs : List Int) (w : World) (hA : Ints w A n xs) (hB : Ints w B m xs) :
    Calls Tryd.prog 24 #[.slice A n c, .slice B m d] w fun e w' => e = .returned (.bool true) ∧ Below w.heap.size w w' := by
  have hn := hA.bound
  obtain rfl : n = m := hA.len.symm.trans hB.len
  have hneq : ((n : Int) != (n : Int)) = false := by simp
  go_enter Tryd.func24, Tryd.ntmps24
  go_wp2
  go_loopw [5] (fun i wr => ∃ j : Nat, j ≤ n ∧ i = .int .i64 j ∧ Below w.heap.size w wr) (fun i _ => n - (intOf i).toNat)
  case atStart => exact ⟨0, Nat.zero_le _, rfl, Below.refl _ _⟩
  case round =>
    obtain ⟨j, hj, rfl, hb⟩ := hrel
    by_cases hlt : j < n
    · obtain ⟨b, off, rfl, _, hc⟩ := (hA.below hb).cell (by omega)
      have hck := hc j hlt
      obtain ⟨b', off', rfl, _, hc'⟩ := (hB.below hb).cell (by omega)
      have hck' := hc' j hlt
      have HB := Lib.hid hb
      clear hc hc' hb
      go_wp2
      go_quiet (fail)
      go_wp2
      go_roundw
      case rel => exact ⟨j + 1, by omega, by go_num, below_drewN HB.out _⟩
      case measure => simp [intOf]; omega
    · obtain rfl : j = n := by omega
      go_wp2
      go_ret
      exact ⟨rfl, hb⟩
end Go.Proofs.YtoghgbbepjpelaaDoor
