/- The contracts of BestTest, the reference's and the program's. -/
import Derived.Test.YtmapjepdcbpalaaGreatDoorBD
namespace Go.Proofs.YtmapjepdcbpalaaGreatDoor
open Go.RowKit
set_option linter.unusedVariables false

/-- The first place of the least of the first k numbers. -/
def minAt (f : Nat → Nat) : Nat → Nat
  | 0 => 0
  | k + 1 => if k = 0 then 0 else if f k < f (minAt f k) then k else minAt f k
theorem minAt_one (f : Nat → Nat) : minAt f (0 + 1) = 0 := rfl
theorem minAt_yes {f : Nat → Nat} {k : Nat} (hk : 0 < k) (h : f k < f (minAt f k)) : minAt f (k + 1) = k := by rw [minAt, if_neg (by omega), if_pos h]
theorem minAt_no {f : Nat → Nat} {k : Nat} (hk : 0 < k) (h : ¬ f k < f (minAt f k)) : minAt f (k + 1) = minAt f k := by rw [minAt, if_neg (by omega), if_neg h]
theorem minAt_lt {f : Nat → Nat} : ∀ {k : Nat}, 0 < k → minAt f k < k
  | k + 1, _ => by
    rw [minAt]
    by_cases h0 : k = 0
    · rw [if_pos h0]; omega
    · rw [if_neg h0]
      have := minAt_lt (f := f) (k := k) (by omega)
      split <;> omega
/-- How many of the first q causes a batch has. -/
def hasN (p : List Cause) (b : Batch) (q : Nat) : Nat := cntN (fun j => hasB b (nt p j)) q
def worstN (ts : List Batch) (p : List Cause) (i : Nat) : Nat := max (hasN p (nt ts i) p.length) (p.length - hasN p (nt ts i) p.length)
theorem hasN_le (p : List Cause) (b : Batch) (q : Nat) : hasN p b q ≤ q := cntN_le _ _
theorem hasN_yes {p : List Cause} {b : Batch} {q : Nat} (h : hasB b (nt p q) = true) : hasN p b (q + 1) = hasN p b q + 1 := cntN_yes (p := fun j => hasB b (nt p j)) h
theorem hasN_no {p : List Cause} {b : Batch} {q : Nat} (h : hasB b (nt p q) = false) : hasN p b (q + 1) = hasN p b q := cntN_no (p := fun j => hasB b (nt p j)) h
/-- The best so far: how the reference and the program hold it. -/
def BestS (f : Nat → Nat) (k : Nat) (b l : Int) : Prop := (k = 0 ∧ b = -1 ∧ l = 0) ∨ (0 < k ∧ b = (minAt f k : Nat) ∧ l = (f (minAt f k) : Nat))
def BestI (f : Nat → Nat) (k : Nat) (b l : Int) : Prop := (k = 0 ∧ b = 0 ∧ l = -1) ∨ (0 < k ∧ b = (minAt f k : Nat) ∧ l = (f (minAt f k) : Nat))

def btC (xs ts : List Batch) : Int := if batchesOk xs = true then (if batchesOk ts = true then (if ts = [] then 3 else if xs.any (·.Bad) = true then 0 else 3) else 1) else 1
def btV (xs ts : List Batch) : Int := if btC xs ts = 0 then (minAt (worstN ts (posL xs)) ts.length : Nat) else 0
def BtC (xs ts : List Batch) (w : World) (e : Ending) (w' : World) : Prop := e = .returned (.tuple #[.int .i64 (btV xs ts), .int .i64 (btC xs ts)]) ∧ Below w.heap.size w w'
theorem BtC.mk {xs ts : List Batch} {w w' : World} {v c : Int} (h : btV xs ts = v) (k : btC xs ts = c) (hb : Below w.heap.size w w') : BtC xs ts w (.returned (.tuple #[.int .i64 v, .int .i64 c])) w' := by
  subst h; subst k; exact ⟨rfl, hb⟩
theorem BtC.bad {xs ts : List Batch} {w w' : World} {c : Int} (k : btC xs ts = c) (h0 : c ≠ 0) (hb : Below w.heap.size w w') : BtC xs ts w (.returned (.tuple #[.int .i64 0, .int .i64 c])) w' :=
  BtC.mk (by rw [btV, k, if_neg h0]) k hb
theorem max_nat {c n : Nat} (h : c ≤ n) : max (c : Int) ((n : Int) - (c : Int)) = (max c (n - c) : Nat) := by omega

end Go.Proofs.YtmapjepdcbpalaaGreatDoor
