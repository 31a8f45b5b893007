/- The contracts of markInt64S and heldInt64S: a slice that the call may write is filled with rising numbers, and read again. -/
import Derived.Test.YtnccooeaeomjfaaDoorRows
import Derived.Test.YtnccooeaeomjfaaDoorFz
namespace Go.Proofs.YtnccooeaeomjfaaDoor
open Go.RowKit
set_option linter.unusedVariables false

/-- n rising numbers from k on. -/
def rise (k : Int) (n : Nat) : List Int := (List.range n).map fun j : Nat => k + (j : Int)
theorem rise_len (k : Int) (n : Nat) : (rise k n).length = n := by simp [rise]
theorem rise_nth {k : Int} {n j : Nat} (h : j < n) : nth (rise k n) j = k + (j : Int) := by
  rw [nth_lt (by rw [rise_len]; exact h)]; simp [rise]

def Marked (A : Option Addr) (n : Nat) (k : Int) (w : World) (e : Ending) (w' : World) : Prop :=
  e = .returned (.int .i64 (k + n)) ∧ Ints w' A n (rise k n) ∧ Fz w' A ∧ w.grownBy w' (A.map (·.block))

end Go.Proofs.YtnccooeaeomjfaaDoor
