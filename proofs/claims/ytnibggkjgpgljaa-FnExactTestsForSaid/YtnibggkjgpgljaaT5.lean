/- The contracts of PassChance, the reference's and the program's: its gates. -/
import Derived.Test.YtnibggkjgpgljaaT4
namespace Go.Proofs.Ytnibggkjgpgljaa
open Go.RowKit
set_option linter.unusedVariables false

def lotB (lot weak : Int) : Bool := inB lot 1 60 && inB weak 0 lot
def testB (tested allowed : Int) : Bool := inB tested 1 10 && inB allowed 0 tested
def lotC (lot weak tested allowed : Int) : Int := if (lotB lot weak && testB tested allowed) = true then (if lot < tested then 6 else 0) else 2

theorem isLot_any (lot weak : Int) (w : World) :
    Calls Try.prog 56 #[.int .i64 lot, .int .i64 weak] w fun e w' => e = .returned (.bool (lotB lot weak)) ∧ w = w' := by
  have E := Lib.hid (show lotB lot weak = (inB lot 1 60 && inB weak 0 lot) from rfl)
  rcases Bool.eq_false_or_eq_true (inB lot 1 60) with g | g
  · have G := Lib.hid g; clear g
    go_enter Try.func56, Try.ntmps56
    go_wp2_with fail
    refine (asB (within_any _ _ _ _) G.out).mono ?_; rintro e w' ⟨rfl, rfl⟩
    go_wp2_with fail
    refine (within_any _ _ _ _).mono ?_; rintro e w' ⟨rfl, rfl⟩
    go_wp2_with fail
    go_ret
    exact ⟨ret_bool (by rw [E.out, G.out]; simp), rfl⟩
  · have G := Lib.hid g; clear g
    go_enter Try.func56, Try.ntmps56
    go_wp2_with fail
    refine (asB (within_any _ _ _ _) G.out).mono ?_; rintro e w' ⟨rfl, rfl⟩
    go_wp2_with fail
    go_ret
    exact ⟨ret_bool (by rw [E.out, G.out]; simp), rfl⟩
theorem isTest_any (tested allowed : Int) (w : World) :
    Calls Try.prog 57 #[.int .i64 tested, .int .i64 allowed] w fun e w' => e = .returned (.bool (testB tested allowed)) ∧ w = w' := by
  have E := Lib.hid (show testB tested allowed = (inB tested 1 10 && inB allowed 0 tested) from rfl)
  rcases Bool.eq_false_or_eq_true (inB tested 1 10) with g | g
  · have G := Lib.hid g; clear g
    go_enter Try.func57, Try.ntmps57
    go_wp2_with fail
    refine (asB (within_any _ _ _ _) G.out).mono ?_; rintro e w' ⟨rfl, rfl⟩
    go_wp2_with fail
    refine (within_any _ _ _ _).mono ?_; rintro e w' ⟨rfl, rfl⟩
    go_wp2_with fail
    go_ret
    exact ⟨ret_bool (by rw [E.out, G.out]; simp), rfl⟩
  · have G := Lib.hid g; clear g
    go_enter Try.func57, Try.ntmps57
    go_wp2_with fail
    refine (asB (within_any _ _ _ _) G.out).mono ?_; rintro e w' ⟨rfl, rfl⟩
    go_wp2_with fail
    go_ret
    exact ⟨ret_bool (by rw [E.out, G.out]; simp), rfl⟩

set_option maxHeartbeats 1000000 in
theorem l19Lot_any (lot weak tested allowed : Int) (w : World) :
    Calls Try.prog 54 #[.int .i64 lot, .int .i64 weak, .int .i64 tested, .int .i64 allowed] w fun e w' => e = .returned (.int .i64 (lotC lot weak tested allowed)) ∧ w = w' := by
  have E := Lib.hid (show lotC lot weak tested allowed = if ((inB lot 1 60 && inB weak 0 lot) && (inB tested 1 10 && inB allowed 0 tested)) = true then (if lot < tested then 6 else 0) else 2 from rfl)
  rcases Bool.eq_false_or_eq_true (inB lot 1 60) with g1 | g1 <;> have G1 := Lib.hid g1 <;> clear g1
  · rcases Bool.eq_false_or_eq_true (inB weak 0 lot) with g2 | g2 <;> have G2 := Lib.hid g2 <;> clear g2
    · rcases Bool.eq_false_or_eq_true (inB tested 1 10) with g3 | g3 <;> have G3 := Lib.hid g3 <;> clear g3
      · rcases Bool.eq_false_or_eq_true (inB allowed 0 tested) with g4 | g4 <;> have G4 := Lib.hid g4 <;> clear g4
        · by_cases hlt : lot < tested
          · have R := Lib.hid (show lotC lot weak tested allowed = 6 by rw [E.out, G1.out, G2.out, G3.out, G4.out]; simp [hlt])
            go_enter Try.func54, Try.ntmps54
            go_wp2_with fail
            refine (asB (in_any _ _ _ _) G1.out).mono ?_; rintro e w' ⟨rfl, rfl⟩
            go_wp2_with fail
            refine (asB (in_any _ _ _ _) G2.out).mono ?_; rintro e w' ⟨rfl, rfl⟩
            go_wp2_with fail
            refine (asB (in_any _ _ _ _) G3.out).mono ?_; rintro e w' ⟨rfl, rfl⟩
            go_wp2_with fail
            refine (asB (in_any _ _ _ _) G4.out).mono ?_; rintro e w' ⟨rfl, rfl⟩
            go_wp2_with fail
            go_ret
            exact ⟨ret_int R.out.symm, rfl⟩
          · have R := Lib.hid (show lotC lot weak tested allowed = 0 by rw [E.out, G1.out, G2.out, G3.out, G4.out]; simp [hlt])
            go_enter Try.func54, Try.ntmps54
            go_wp2_with fail
            refine (asB (in_any _ _ _ _) G1.out).mono ?_; rintro e w' ⟨rfl, rfl⟩
            go_wp2_with fail
            refine (asB (in_any _ _ _ _) G2.out).mono ?_; rintro e w' ⟨rfl, rfl⟩
            go_wp2_with fail
            refine (asB (in_any _ _ _ _) G3.out).mono ?_; rintro e w' ⟨rfl, rfl⟩
            go_wp2_with fail
            refine (asB (in_any _ _ _ _) G4.out).mono ?_; rintro e w' ⟨rfl, rfl⟩
            go_wp2_with fail
            go_ret
            exact ⟨ret_int R.out.symm, rfl⟩
        · have R := Lib.hid (show lotC lot weak tested allowed = 2 by rw [E.out, G4.out]; simp)
          go_enter Try.func54, Try.ntmps54
          go_wp2_with fail
          refine (asB (in_any _ _ _ _) G1.out).mono ?_; rintro e w' ⟨rfl, rfl⟩
          go_wp2_with fail
          refine (asB (in_any _ _ _ _) G2.out).mono ?_; rintro e w' ⟨rfl, rfl⟩
          go_wp2_with fail
          refine (asB (in_any _ _ _ _) G3.out).mono ?_; rintro e w' ⟨rfl, rfl⟩
          go_wp2_with fail
          refine (asB (in_any _ _ _ _) G4.out).mono ?_; rintro e w' ⟨rfl, rfl⟩
          go_wp2_with fail
          go_ret
          exact ⟨ret_int R.out.symm, rfl⟩
      · have R := Lib.hid (show lotC lot weak tested allowed = 2 by rw [E.out, G3.out]; simp)
        go_enter Try.func54, Try.ntmps54
        go_wp2_with fail
        refine (asB (in_any _ _ _ _) G1.out).mono ?_; rintro e w' ⟨rfl, rfl⟩
        go_wp2_with fail
        refine (asB (in_any _ _ _ _) G2.out).mono ?_; rintro e w' ⟨rfl, rfl⟩
        go_wp2_with fail
        refine (asB (in_any _ _ _ _) G3.out).mono ?_; rintro e w' ⟨rfl, rfl⟩
        go_wp2_with fail
        go_ret
        exact ⟨ret_int R.out.symm, rfl⟩
    · have R := Lib.hid (show lotC lot weak tested allowed = 2 by rw [E.out, G2.out]; simp)
      go_enter Try.func54, Try.ntmps54
      go_wp2_with fail
      refine (asB (in_any _ _ _ _) G1.out).mono ?_; rintro e w' ⟨rfl, rfl⟩
      go_wp2_with fail
      refine (asB (in_any _ _ _ _) G2.out).mono ?_; rintro e w' ⟨rfl, rfl⟩
      go_wp2_with fail
      go_ret
      exact ⟨ret_int R.out.symm, rfl⟩
  · have R := Lib.hid (show lotC lot weak tested allowed = 2 by rw [E.out, G1.out]; simp)
    go_enter Try.func54, Try.ntmps54
    go_wp2_with fail
    refine (asB (in_any _ _ _ _) G1.out).mono ?_; rintro e w' ⟨rfl, rfl⟩
    go_wp2_with fail
    go_ret
    exact ⟨ret_int R.out.symm, rfl⟩
end Go.Proofs.Ytnibggkjgpgljaa
