/- The contracts of the fire's gap, the reference's and the program's, and of FireGap. -/
import Derived.Test.YtnccooeaeomjfaaDoorK4
namespace Go.Proofs.YtnccooeaeomjfaaDoor
open Go.RowKit
set_option linter.unusedVariables false

theorem l00Min_any (a b : Int) (w : World) :
    Calls Tryd.prog 21 #[.int .i64 a, .int .i64 b] w fun e w' => e = .returned (.int .i64 (min a b)) ∧ w = w' := by
  go_enter Tryd.func21, Tryd.ntmps21
  go_wp2
  all_goals (go_ret; exact ⟨ret_int (by omega), rfl⟩)
/-- Is there fire at a, and an open door at b? -/
def hitB (xs : List Int) (a b : Int) : Bool := stg xs a 0 == 3 && (stg xs b 0 == 1 || stg xs b 0 == 5)
def gapStep (ch : Int) (xs : List Int) (a b acc : Int) : Int :=
  if hitB xs a b = true then min acc (min (max (a - b) (-(a - b))) (ch - max (a - b) (-(a - b)))) else acc
def gapIn (ch : Int) (xs : List Int) (a acc : Int) : Nat → Int
  | 0 => acc
  | k + 1 => gapStep ch xs a k (gapIn ch xs a acc k)
def gapOut (ch : Int) (xs : List Int) : Nat → Int
  | 0 => ch
  | k + 1 => gapIn ch xs k (gapOut ch xs k) ch.toNat
/-- The gap of the fire. -/
def gapF (ch : Int) (xs : List Int) : Int := gapOut ch xs ch.toNat
theorem gapIn_succ (ch : Int) (xs : List Int) (a acc : Int) (k : Nat) : gapIn ch xs a acc (k + 1) = gapStep ch xs a k (gapIn ch xs a acc k) := rfl

theorem gapStep_yes {ch : Int} {xs : List Int} {a b acc : Int} (h : hitB xs a b = true) : gapStep ch xs a b acc = min acc (min (max (a - b) (-(a - b))) (ch - max (a - b) (-(a - b)))) := if_pos h
theorem gapStep_no {ch : Int} {xs : List Int} {a b acc : Int} (h : hitB xs a b = false) : gapStep ch xs a b acc = acc := if_neg (by simp [h])
theorem min3 {acc d c : Int} : (if c < (if d < acc then d else acc) then c else (if d < acc then d else acc)) = min acc (min d c) := by
  by_cases hh : d < acc
  · rw [if_pos hh]; split <;> omega
  · rw [if_neg hh]; split <;> omega

def fireGapF (ch : Int) (xs : List Int) : Int × Int := if okB ch xs = true then (gapF ch xs, 0) else (0, 1)

end Go.Proofs.YtnccooeaeomjfaaDoor
