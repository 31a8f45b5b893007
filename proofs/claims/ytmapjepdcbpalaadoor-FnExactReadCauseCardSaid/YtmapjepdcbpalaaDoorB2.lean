/- Causes of batches: whether a batch has a cause, the reference's way and the program's. -/
import Derived.Test.YtmapjepdcbpalaaDoorB1
import Derived.Test.YtmapjepdcbpalaaDoorRCause
namespace Go.Proofs.YtmapjepdcbpalaaDoor
open Go.RowKit
set_option linter.unusedVariables false

theorem below_drew {B : Nat} {a w : World} (h : Below B a w) : Below B a w.drew := ⟨h.os, h.tape, h.output, h.size, h.block⟩
def Cause.eqB (a b : Cause) : Bool := a.Kind == b.Kind && a.Number == b.Number
def causeB (c : Cause) : Bool := inB c.Kind 1 3 && inB c.Number 1 20
def hasB (b : Batch) (c : Cause) : Bool := if c.Kind = 1 then b.Clay == c.Number else if c.Kind = 2 then b.Mould == c.Number else b.Chamber == c.Number
def causesL (b : Batch) : List Cause := [⟨1, b.Clay⟩, ⟨2, b.Mould⟩, ⟨3, b.Chamber⟩]
theorem causeB_parts {c : Cause} (h : causeB c = true) : (1 ≤ c.Kind ∧ c.Kind ≤ 3) ∧ 1 ≤ c.Number ∧ c.Number ≤ 20 := by
  simp only [causeB, Bool.and_eq_true, inB_true] at h; exact h
theorem has_eq {b : Batch} {c : Cause} (h : causeB c = true) : (causesL b).any (Cause.eqB c) = hasB b c := by
  have hk := (causeB_parts h).1
  have h3 : c.Kind = 1 ∨ c.Kind = 2 ∨ c.Kind = 3 := by omega
  rw [Bool.eq_iff_iff]
  simp only [causesL, Cause.eqB, hasB, List.any_cons, List.any_nil, Bool.or_false, Bool.or_eq_true, Bool.and_eq_true, beq_iff_eq]
  rcases h3 with h3 | h3 | h3 <;> rw [h3] <;> simp <;> exact eq_comm

theorem l18Cause_any (c : Cause) (w : World) :
    Calls Tryd.prog 11 #[.agg #[.int .i64 c.Kind, .int .i64 c.Number]] w fun e w' => e = .returned (.bool (causeB c)) ∧ Below w.heap.size w w' := by
  have E := Lib.hid (show causeB c = (inB c.Kind 1 3 && inB c.Number 1 20) from rfl)
  rcases Bool.eq_false_or_eq_true (inB c.Kind 1 3) with g | g
  · have G := Lib.hid g; clear g
    go_enter Tryd.func11, Tryd.ntmps11
    go_wp2_with fail
    refine (asB (in_any _ _ _ _) G.out).mono ?_; rintro e w' ⟨rfl, rfl⟩
    go_wp2_with fail
    refine (l18Number_any _ _).mono ?_; rintro e w' ⟨rfl, rfl⟩
    go_wp2_with fail
    go_ret
    exact ⟨ret_bool (by rw [E.out, G.out]; simp), by go_grown⟩
  · have G := Lib.hid g; clear g
    go_enter Tryd.func11, Tryd.ntmps11
    go_wp2_with fail
    refine (asB (in_any _ _ _ _) G.out).mono ?_; rintro e w' ⟨rfl, rfl⟩
    go_wp2_with fail
    go_ret
    exact ⟨ret_bool (by rw [E.out, G.out]; simp), by go_grown⟩
theorem isCause_any (c : Cause) (w : World) :
    Calls Tryd.prog 14 #[.agg #[.int .i64 c.Kind, .int .i64 c.Number]] w fun e w' => e = .returned (.bool (causeB c)) ∧ Below w.heap.size w w' := by
  have E := Lib.hid (show causeB c = (inB c.Kind 1 3 && inB c.Number 1 20) from rfl)
  rcases Bool.eq_false_or_eq_true (inB c.Kind 1 3) with g | g
  · have G := Lib.hid g; clear g
    go_enter Tryd.func14, Tryd.ntmps14
    go_wp2_with fail
    refine (asB (within_any _ _ _ _) G.out).mono ?_; rintro e w' ⟨rfl, rfl⟩
    go_wp2_with fail
    refine (within_any _ _ _ _).mono ?_; rintro e w' ⟨rfl, rfl⟩
    go_wp2_with fail
    go_ret
    exact ⟨ret_bool (by rw [E.out, G.out]; simp), by go_grown⟩
  · have G := Lib.hid g; clear g
    go_enter Tryd.func14, Tryd.ntmps14
    go_wp2_with fail
    refine (asB (within_any _ _ _ _) G.out).mono ?_; rintro e w' ⟨rfl, rfl⟩
    go_wp2_with fail
    go_ret
    exact ⟨ret_bool (by rw [E.out, G.out]; simp), by go_grown⟩

def MadeCauses (b : Batch) (w : World) (e : Ending) (w' : World) : Prop := ∃ q, e = .returned (.slice (some ⟨q, 0, none⟩) 3 3) ∧ CauseS w' (some ⟨q, 0, none⟩) 3 (causesL b) ∧ Below w.heap.size w w'
end Go.Proofs.YtmapjepdcbpalaaDoor
