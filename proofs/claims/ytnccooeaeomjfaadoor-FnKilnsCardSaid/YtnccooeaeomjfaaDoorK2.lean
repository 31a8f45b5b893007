/- The contracts of the kiln's functions, second part: codes, phases, stages. -/
import Derived.Test.YtnccooeaeomjfaaDoorK1
namespace Go.Proofs.YtnccooeaeomjfaaDoor
open Go.RowKit
set_option linter.unusedVariables false

/-- The code of a kiln, a chamber, a step and a stage. -/
def codeF (ch : Int) (xs : List Int) (c s t : Int) : Int :=
  if okB ch xs = false then 1 else if inB c 0 (ch - 1) && inB s 0 100000 && inB t 0 5 then 0 else 2

theorem codeF_bad {ch : Int} {xs : List Int} {c s t : Int} (h : okB ch xs = false) : codeF ch xs c s t = 1 := by simp [codeF, h]
theorem codeF_ok {ch : Int} {xs : List Int} {c s t : Int} (h : okB ch xs = true) : codeF ch xs c s t = if inB c 0 (ch - 1) && inB s 0 100000 && inB t 0 5 then 0 else 2 := by simp [codeF, h]
theorem codeF_zero {ch : Int} {xs : List Int} {c s t : Int} (h : codeF ch xs c s t = 0) : okB ch xs = true ∧ (0 ≤ c ∧ c ≤ ch - 1) ∧ (0 ≤ s ∧ s ≤ 100000) ∧ (0 ≤ t ∧ t ≤ 5) := by
  unfold codeF at h
  split at h
  · omega
  · split at h
    · rename_i h1 h2
      simp only [Bool.and_eq_true, inB_true] at h2
      exact ⟨by simpa using h1, h2.1.1, h2.1.2, h2.2⟩
    · omega

set_option maxHeartbeats 400000 in
theorem kilnCode_any (ch : Int) (A : Option Addr) (n cp : Nat) (xs : List Int) (c s t : Int) (w : World) (hA : Ints w A n xs) :
    Calls Tryd.prog 24 #[.agg #[.int .i64 ch, .slice A n cp], .int .i64 c, .int .i64 s, .int .i64 t] w fun e w' => e = .returned (.int .i64 (codeF ch xs c s t)) ∧ Below w.heap.size w w' := by
  rcases Bool.eq_false_or_eq_true (okB ch xs) with g1 | g1
  · have E := Lib.hid (codeF_ok (c := c) (s := s) (t := t) g1)
    obtain ⟨l1, l2, _, _⟩ := okB_parts g1
    have G1 := Lib.hid g1; clear g1
    go_enter Tryd.func24, Tryd.ntmps24
    go_wp2_with (first | (go_at_call 27; refine (asB (validKiln_any _ _ _ _ xs _ (hA.below (by first | (go_grown; done) | (go_split_ands; assumption)))) G1.out).mono ?_; rintro e w1 ⟨rfl, hb1⟩; obtain ⟨hc1, hf1⟩ := bcell hb1) | (go_at_call 18; refine (within_any _ _ _ _).mono ?_; rintro e w' ⟨rfl, rfl⟩))
    all_goals
      go_ret
      exact ⟨ret_int (by rw [E.out]; simp_all), Below.trans (by go_grown) (hb1.mono (by simp))⟩
  · have E := Lib.hid (codeF_bad (c := c) (s := s) (t := t) g1)
    have G1 := Lib.hid g1; clear g1
    go_enter Tryd.func24, Tryd.ntmps24
    go_wp2_with (go_at_call 27; refine (asB (validKiln_any _ _ _ _ xs _ (hA.below (by first | (go_grown; done) | (go_split_ands; assumption)))) G1.out).mono ?_; rintro e w1 ⟨rfl, hb1⟩; obtain ⟨hc1, hf1⟩ := bcell hb1)
    go_ret
    exact ⟨ret_int (by rw [E.out]), Below.trans (by go_grown) (hb1.mono (by simp))⟩
end Go.Proofs.YtnccooeaeomjfaaDoor
