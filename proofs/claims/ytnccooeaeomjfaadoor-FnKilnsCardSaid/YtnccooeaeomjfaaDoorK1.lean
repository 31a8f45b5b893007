/- The contracts of the kiln's functions, first part: valid kilns, codes. -/
import Derived.Test.YtnccooeaeomjfaaDoorCl
import Derived.Test.YtnccooeaeomjfaaDoorFr
namespace Go.Proofs.YtnccooeaeomjfaaDoor
open Go.RowKit
set_option linter.unusedVariables false

/-- A kiln that lies in memory. -/
structure KAt (w : World) (b : Nat) (ch : Int) (A : Option Addr) (n c : Nat) (xs : List Int) : Prop where
  lt : b < w.heap.size
  c0 : w.cell? ⟨b, 0, none⟩ = some (.int .i64 ch)
  c1 : w.cell? ⟨b, 1, none⟩ = some (.slice A n c)
  ints : Ints w A n xs
theorem KAt.below {w w' : World} {b : Nat} {ch : Int} {A : Option Addr} {n c : Nat} {xs : List Int} (h : KAt w b ch A n c xs) (hb : Below w.heap.size w w') : KAt w' b ch A n c xs :=
  ⟨Nat.lt_of_lt_of_le h.lt hb.size, (hb.cell (p := ⟨b, 0, none⟩) h.lt).trans h.c0, (hb.cell (p := ⟨b, 1, none⟩) h.lt).trans h.c1, h.ints.below hb⟩

theorem areLengths_any (A : Option Addr) (n c : Nat) (xs : List Int) (w : World) (hA : Ints w A n xs) :
    Calls Tryd.prog 30 #[.slice A n c] w fun e w' => e = .returned (.bool (lensOk xs)) ∧ Below w.heap.size w w' := by
  have hn := hA.bound
  by_cases g : n = 5
  · have g0 : ((n : Int) == 5) = true := by simp; omega
    have E : Hid (lensOk xs = allIn xs 1 10) := by show _ = _; rw [lensOk, hA.len, g]; rfl
    clear g
    go_enter Tryd.func30, Tryd.ntmps30
    go_wp2_with (go_at_call 32; refine (outside_any _ _ _ xs _ _ _ hA).mono ?_; rintro e w1 ⟨rfl, hb1⟩)
    go_ret
    exact ⟨ret_bool (by rw [E.out]), hb1⟩
  · have g0 : ((n : Int) == 5) = false := by simp; omega
    have E : Hid (lensOk xs = false) := by show _ = _; rw [lensOk, hA.len]; simp [g]
    clear g
    go_enter Tryd.func30, Tryd.ntmps30
    go_wp2
    go_ret
    exact ⟨ret_bool (by rw [E.out]), Below.refl _ _⟩

set_option maxHeartbeats 2000000 in
theorem validKiln_any (ch : Int) (A : Option Addr) (n c : Nat) (xs : List Int) (w : World) (hA : Ints w A n xs) :
    Calls Tryd.prog 27 #[.agg #[.int .i64 ch, .slice A n c]] w fun e w' => e = .returned (.bool (okB ch xs)) ∧ Below w.heap.size w w' := by
  obtain ⟨x1, g1⟩ : ∃ x, inB ch 6 24 = x := ⟨_, rfl⟩
  obtain ⟨x2, g2⟩ : ∃ x, lensOk xs = x := ⟨_, rfl⟩
  have E : Hid (okB ch xs = (x1 && x2 && decide (sumL xs ≤ ch))) := by show _ = _; rw [okB, g1, g2]
  have G1 := Lib.hid g1; have G2 := Lib.hid g2; clear g1 g2
  cases x1
  · clear G2
    go_enter Tryd.func27, Tryd.ntmps27
    go_wp2
    go_quiet ((go_at_call 18; exact q_same (asB (within_any _ _ _ _) G1.out)))
    go_wp2
    go_ret
    exact ⟨ret_bool (by rw [E.out]; simp), below_drewN (by go_grown) _⟩
  · cases x2
    · go_enter Tryd.func27, Tryd.ntmps27
      go_wp2
      first | go_region_with ((first | (go_at_call 18; refine (asB (within_any _ _ _ _) G1.out).mono ?_; rintro e w' ⟨rfl, rfl⟩) | (go_at_call 30; refine (asB (areLengths_any _ _ _ xs _ (hA.below (by first | (go_grown; done) | (go_split_ands; assumption)))) G2.out).mono ?_; rintro e w1 ⟨rfl, hb1⟩))) | fail
      all_goals
        go_wp2
        go_ret
        exact ⟨ret_bool (by rw [E.out]; simp), Below.trans (by go_grown) (hb1.mono (by simp))⟩
    · go_enter Tryd.func27, Tryd.ntmps27
      go_wp2
      go_region_held3 (fun w' => w'.cell? ⟨w.heap.size, 0, none⟩ = some (.int .i64 ch) ∧ w'.cell? ⟨w.heap.size, 1, none⟩ = some (.slice A n c) ∧ w.heap.size < w'.heap.size ∧ Below w.heap.size w w')
        ((try refine ⟨?_, ?_, ?_, ?_⟩) <;> (first | go_keep | (go_grown; done) | (go_split_ands; first | exact (hb1.cell (p := ⟨_, _, none⟩) (by assumption)).trans (by assumption) | exact Nat.lt_of_lt_of_le (by assumption) hb1.size | exact bel_tr (by assumption) hb1)))
        (first | (go_at_call 18; refine (asB (within_any _ _ _ _) G1.out).mono ?_; rintro e w' ⟨rfl, rfl⟩) | (go_at_call 30; refine (asB (areLengths_any _ _ _ xs _ (hA.below (by first | (go_grown; done) | (go_split_ands; assumption)))) G2.out).mono ?_; rintro e w1 ⟨rfl, hb1⟩) | (go_at_call 31; refine (sumOf_any _ _ _ xs _ (hA.below (by first | (go_grown; done) | (go_split_ands; assumption)))).mono ?_; rintro e w' ⟨rfl, rfl⟩))
      all_goals
        go_wp2
        go_ret
        exact ⟨ret_bool (by rw [E.out]; simp), (by first | (go_grown; done) | (go_split_ands; assumption))⟩
end Go.Proofs.YtnccooeaeomjfaaDoor
