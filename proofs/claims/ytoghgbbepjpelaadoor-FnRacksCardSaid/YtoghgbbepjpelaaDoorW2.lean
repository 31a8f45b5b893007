/- The contracts of PointsBetween and DryOn, the reference's and the program's. -/
import Derived.Test.YtoghgbbepjpelaaDoorW1
import Derived.Test.YtoghgbbepjpelaaDoorTw
namespace Go.Proofs.YtoghgbbepjpelaaDoor
open Go.RowKit
set_option linter.unusedVariables false

/-- The points of k days from a day on. -/
def psW (s : ByteArray) (a : Nat) : Nat → Int
  | 0 => 0
  | k + 1 => psW s a k + ptAt s (a + k)
theorem psW_next {s : ByteArray} {a i : Nat} (h : a ≤ i) : psW s a (i + 1 - a) = psW s a (i - a) + ptAt s i := by
  rw [show i + 1 - a = (i - a) + 1 by omega, psW, show a + (i - a) = i by omega]
theorem psW_bound {s : ByteArray} (h : weatherB s = true) (a : Nat) : ∀ k, 0 ≤ psW s a k ∧ psW s a k ≤ 5 * (k : Int) := by
  have hp := (weatherB_parts h).2
  intro k
  induction k with
  | zero => simp [psW]
  | succ k ih =>
    have h1 := hp (a + k)
    have h2 := (ptAt_bound s (a + k)).2
    rw [psW]
    omega
theorem pt_wrap {x p : Int} (h0 : 0 ≤ x) (h1 : x ≤ 300) (h2 : 0 ≤ p) (h3 : p ≤ 5) : wrap64 (x + p) = x + p := IntWalk.wrap64_in _ (by omega)

end Go.Proofs.YtoghgbbepjpelaaDoor
