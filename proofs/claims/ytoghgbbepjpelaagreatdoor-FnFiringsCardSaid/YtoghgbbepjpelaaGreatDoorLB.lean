/- The contracts of the later laws' own helpers: f6big, f6sum, f6ints. -/
import Derived.Test.YtoghgbbepjpelaaGreatDoorRows
import Derived.Test.YtoghgbbepjpelaaGreatDoorBp
namespace Go.Proofs.YtoghgbbepjpelaaGreatDoor
open Go.RowKit
set_option linter.unusedVariables false

theorem f6big_yes (A : Option Addr) (n c : Nat) (w : World) (hn : n ≤ 9223372036854775807) (h : (4096 : Int) < n) :
    Calls Tryz.prog 4 #[.slice A n c] w fun e w' => e = .returned (.bool true) ∧ w = w' := by
  go_enter Tryz.func4, Tryz.ntmps4
  go_wp2
  go_ret
  exact ⟨ret_bool (by simp), rfl⟩
theorem f6big_no (A : Option Addr) (n c : Nat) (w : World) (h : ¬ (4096 : Int) < n) :
    Calls Tryz.prog 4 #[.slice A n c] w fun e w' => e = .returned (.bool false) ∧ w = w' := by
  go_enter Tryz.func4, Tryz.ntmps4
  go_wp2
  go_ret
  exact ⟨ret_bool (by simp), rfl⟩
theorem f6ints_yes (A : Option Addr) (n c : Nat) (B : Option Addr) (m d : Nat) (xs : List Int) (w : World) (hA : Ints w A n xs) (hB : Ints w B m xs) :
    Calls Tryz.prog 19 #[.slice A n c, .slice B m d] w fun e w' => e = .returned (.bool true) ∧ Below w.heap.size w w' := by
  have hn := hA.bound
  obtain rfl : n = m := hA.len.symm.trans hB.len
  have hneq : ((n : Int) != (n : Int)) = false := by simp
  go_enter Tryz.func19, Tryz.ntmps19
  go_wp2
  go_loopw [5] (fun i wr => ∃ j : Nat, j ≤ n ∧ i = .int .i64 j ∧ Below w.heap.size w wr) (fun i _ => n - (intOf i).toNat)
  case atStart => exact ⟨0, Nat.zero_le _, rfl, Below.refl _ _⟩
  case round =>
    obtain ⟨j, hj, rfl, hb⟩ := hrel
    by_cases hlt : j < n
    · obtain ⟨b, off, rfl, _, hc⟩ := (hA.below hb).cell (by omega)
      have hck := hc j hlt
      obtain ⟨b', off', rfl, _, hc'⟩ := (hB.below hb).cell (by omega)
      have hck' := hc' j hlt
      have HB := Lib.hid hb
      clear hc hc' hb
      go_wp2
      go_quiet (fail)
      go_wp2
      go_roundw
      case rel => exact ⟨j + 1, by omega, by go_num, below_drewN HB.out _⟩
      case measure => simp [intOf]; omega
    · obtain rfl : j = n := by omega
      go_wp2
      go_ret
      exact ⟨rfl, hb⟩
end Go.Proofs.YtoghgbbepjpelaaGreatDoor
