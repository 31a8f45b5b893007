/- The contracts of AreExplained, the reference's and the program's. -/
import Derived.Test.YtmapjepdcbpalaaGreatDoorCQ2
import Derived.Test.YtmapjepdcbpalaaGreatDoorTw
namespace Go.Proofs.YtmapjepdcbpalaaGreatDoor
open Go.RowKit
set_option linter.unusedVariables false

theorem any_succ {α : Type} [Inhabited α] {xs : List α} {p : α → Bool} {k : Nat} (h : k < xs.length) : (xs.take (k + 1)).any p = ((xs.take k).any p || p (nt xs k)) := by
  rw [take_snoc_nt h]; simp


end Go.Proofs.YtmapjepdcbpalaaGreatDoor
