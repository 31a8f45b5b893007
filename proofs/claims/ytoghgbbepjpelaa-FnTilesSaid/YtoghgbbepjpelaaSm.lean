/- The contracts of the small functions: within, l00In, sumOf, l17Sum, l17Lengths. -/
import Derived.Test.YtoghgbbepjpelaaRows
import Derived.Test.YtoghgbbepjpelaaBase
namespace Go.Proofs.Ytoghgbbepjpelaa
open Go.RowKit
set_option linter.unusedVariables false

theorem within_any (n lo hi : Int) (w : World) :
    Calls Try.prog 51 #[.int .i64 n, .int .i64 lo, .int .i64 hi] w fun e w' => e = .returned (.bool (inB n lo hi)) ∧ w = w' := by
  have h : inB n lo hi = (decide (lo ≤ n) && decide (n ≤ hi)) := by simp [inB]
  rw [h]; clear h
  go_enter Try.func51, Try.ntmps51
  go_wp2
  all_goals (go_ret; exact ⟨ret_bool (by simp [*]; try omega), rfl⟩)
theorem in_any (n lo hi : Int) (w : World) :
    Calls Try.prog 53 #[.int .i64 n, .int .i64 lo, .int .i64 hi] w fun e w' => e = .returned (.bool (inB n lo hi)) ∧ w = w' := by
  have h : inB n lo hi = (decide (lo ≤ n) && decide (n ≤ hi)) := by simp [inB]
  rw [h]; clear h
  go_enter Try.func53, Try.ntmps53
  go_wp2
  all_goals (go_ret; exact ⟨ret_bool (by simp [*]; try omega), rfl⟩)
end Go.Proofs.Ytoghgbbepjpelaa
