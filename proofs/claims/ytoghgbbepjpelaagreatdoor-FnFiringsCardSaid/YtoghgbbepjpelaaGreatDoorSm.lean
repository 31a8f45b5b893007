/- The contracts of the small functions: within, l00In, sumOf, l17Sum, l17Lengths. -/
import Derived.Test.YtoghgbbepjpelaaGreatDoorRows
import Derived.Test.YtoghgbbepjpelaaGreatDoorBase
namespace Go.Proofs.YtoghgbbepjpelaaGreatDoor
open Go.RowKit
set_option linter.unusedVariables false

theorem within_any (n lo hi : Int) (w : World) :
    Calls Tryz.prog 26 #[.int .i64 n, .int .i64 lo, .int .i64 hi] w fun e w' => e = .returned (.bool (inB n lo hi)) ∧ w = w' := by
  have h : inB n lo hi = (decide (lo ≤ n) && decide (n ≤ hi)) := by simp [inB]
  rw [h]; clear h
  go_enter Tryz.func26, Tryz.ntmps26
  go_wp2
  all_goals (go_ret; exact ⟨ret_bool (by simp [*]; try omega), rfl⟩)
theorem in_any (n lo hi : Int) (w : World) :
    Calls Tryz.prog 50 #[.int .i64 n, .int .i64 lo, .int .i64 hi] w fun e w' => e = .returned (.bool (inB n lo hi)) ∧ w = w' := by
  have h : inB n lo hi = (decide (lo ≤ n) && decide (n ≤ hi)) := by simp [inB]
  rw [h]; clear h
  go_enter Tryz.func50, Tryz.ntmps50
  go_wp2
  all_goals (go_ret; exact ⟨ret_bool (by simp [*]; try omega), rfl⟩)
end Go.Proofs.YtoghgbbepjpelaaGreatDoor
