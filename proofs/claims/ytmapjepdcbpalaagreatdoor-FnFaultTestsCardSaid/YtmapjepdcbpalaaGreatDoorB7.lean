/- The contracts of l18Open and of the reference's AreExplained. -/
import Derived.Test.YtmapjepdcbpalaaGreatDoorB6
namespace Go.Proofs.YtmapjepdcbpalaaGreatDoor
open Go.RowKit
set_option linter.unusedVariables false

/-- A drawn region's worlds. -/
def IsOpen (xs : List Batch) (cs : List Cause) (w : World) (e : Ending) (w' : World) : Prop := ∃ r : Int, e = .returned (.int .i64 r) ∧ FirstAt (openB cs) xs r ∧ Below w.heap.size w w'
theorem FirstAt.neg {α : Type} [Inhabited α] {p : α → Bool} {xs : List α} {r : Int} (h : FirstAt p xs r) : decide (r < 0) = !xs.any p := by
  rw [← h.any, Bool.eq_iff_iff]; simp
end Go.Proofs.YtmapjepdcbpalaaGreatDoor
