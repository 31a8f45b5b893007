/- The contracts of isDry and DryOn, the reference's and the program's. -/
import Derived.Test.YtnibggkjgpgljaaW2
namespace Go.Proofs.Ytnibggkjgpgljaa
open Go.RowKit
set_option linter.unusedVariables false

def dryP (s : ByteArray) (a : Nat) (needs : Int) (k : Nat) : Bool := decide (needs ≤ psW s a k)
def isDryB (s : ByteArray) (a : Nat) (needs : Int) (d : Nat) : Bool := decide (a ≤ d) && dryP s a needs (d - a)

set_option maxHeartbeats 400000 in
theorem isDry_any (s : ByteArray) (a d : Nat) (needs : Int) (w : World) (hs : s.size ≤ 9223372036854775807) (hW : weatherB s = true) (hd : d ≤ s.size) (ha : a ≤ 9223372036854775807) :
    Calls Try.prog 73 #[.string s, .int .i64 a, .int .i64 needs, .int .i64 d] w fun e w' => e = .returned (.bool (isDryB s a needs d)) ∧ w = w' := by
  have HW := Lib.hid hW; clear hW
  by_cases h : a ≤ d
  · have E := Lib.hid (show isDryB s a needs d = decide (needs ≤ psW s a (d - a)) by rw [isDryB, dryP]; simp [h])
    have h' : decide (a ≤ d) = true := by simpa using h
    go_enter Try.func73, Try.ntmps73
    go_wp2_with fail
    refine (pointsBetween_any s a d _ hs HW.out hd ha).mono ?_; rintro e w' ⟨rfl, rfl⟩
    go_wp2_with fail
    go_ret
    exact ⟨ret_bool (by rw [E.out]), rfl⟩
  · have E := Lib.hid (show isDryB s a needs d = false by rw [isDryB]; simp [h])
    have h' : decide (a ≤ d) = false := by simpa using h
    go_enter Try.func73, Try.ntmps73
    go_wp2_with fail
    go_ret
    exact ⟨ret_bool (by rw [E.out]), rfl⟩

end Go.Proofs.Ytnibggkjgpgljaa
