/- The contracts of StageAt and StepsUntil, the reference's and the program's. -/
import Derived.Test.YtnccooeaeomjfaaDoorK3
import Derived.Test.YtnccooeaeomjfaaDoorFr
namespace Go.Proofs.YtnccooeaeomjfaaDoor
open Go.RowKit
set_option linter.unusedVariables false

theorem ret_two {k l : IntKind} {a b c d : Int} (h : (a, b) = (c, d)) : Ending.returned (.tuple #[.int k a, .int l b]) = .returned (.tuple #[.int k c, .int l d]) := by
  simp only [Prod.mk.injEq] at h; rw [h.1, h.2]
/-- An answer and its code. -/
def Two (p : Int × Int) (w : World) (e : Ending) (w' : World) : Prop := e = .returned (.tuple #[.int .i64 p.1, .int .i64 p.2]) ∧ Below w.heap.size w w'
theorem Two.mk {p : Int × Int} {w w' : World} {a b : Int} (h : p = (a, b)) (hb : Below w.heap.size w w') : Two p w (.returned (.tuple #[.int .i64 a, .int .i64 b])) w' := by
  subst h; exact ⟨rfl, hb⟩

def stageAtF (ch : Int) (xs : List Int) (c s : Int) : Int × Int := if codeF ch xs c s 0 = 0 then (atF ch xs c s, 0) else (0, codeF ch xs c s 0)

set_option maxHeartbeats 400000 in
theorem implStageAt_any (ch : Int) (A : Option Addr) (n cp : Nat) (xs : List Int) (c s : Int) (w : World) (hA : Ints w A n xs) :
    Calls Tryd.prog 10 #[.agg #[.int .i64 ch, .slice A n cp], .int .i64 c, .int .i64 s] w (Two (stageAtF ch xs c s) w) := by
  by_cases g : codeF ch xs c s 0 = 0
  · have E := Lib.hid (show stageAtF ch xs c s = (atF ch xs c s, 0) by rw [stageAtF, if_pos g])
    obtain ⟨p1, ⟨p2, p3⟩, ⟨p4, p5⟩, _⟩ := codeF_zero g
    obtain ⟨p6, p7, p8, _⟩ := okB_parts p1
    have G := Lib.hid g; clear g
    clear p1
    go_enter Tryd.func10, Tryd.ntmps10
    go_wp2_with fail
    have H1 := kilnCode_any ch A n cp xs c s 0 (w.alloc (.cells #[.int .i64 ch, .slice A n cp] 28)) (hA.alloc _)
    rw [G.out] at H1
    have H1' := Lib.hid H1; clear H1
    (refine (H1'.out).mono ?_; rintro e w1 ⟨rfl, hb1⟩; obtain ⟨hc1, hf1⟩ := bcell hb1; have hz1 := hb1.size; (try simp only [World.size_alloc] at hz1); (try simp only [World.size_setCell] at hz1); (try simp only [World.size_drew] at hz1); (try have L1 : w.heap.size < w1.heap.size := by omega); have B1 : Below w.heap.size w w1 := bel_tr (by first | (go_grown; done) | (go_split_ands; assumption)) hb1)
    go_wp2_with fail
    (refine (stageAt_any _ _ _ _ xs _ _ _ (hA.below (by first | (go_grown; done) | (go_split_ands; assumption))) p8 p6 p7 (by omega) (by omega) (by omega) (by omega)).mono ?_; rintro e w2 ⟨rfl, hb2⟩; obtain ⟨hc2, hf2⟩ := bcell hb2; have hz2 := hb2.size; (try simp only [World.size_alloc] at hz2); (try simp only [World.size_setCell] at hz2); (try simp only [World.size_drew] at hz2); (try have L2 : w.heap.size < w2.heap.size := by omega); have B2 : Below w.heap.size w w2 := bel_tr (by first | (go_grown; done) | (go_split_ands; assumption)) hb2)
    go_wp2_with fail
    go_ret2
    exact Two.mk E.out B2
  · have E := Lib.hid (show stageAtF ch xs c s = (0, codeF ch xs c s 0) by rw [stageAtF, if_neg g])
    have g' : (codeF ch xs c s 0 != 0) = true := by simpa using g
    clear g
    go_enter Tryd.func10, Tryd.ntmps10
    go_wp2_with fail
    (refine (kilnCode_any _ _ _ _ xs _ _ _ _ (hA.below (by first | (go_grown; done) | (go_split_ands; assumption)))).mono ?_; rintro e w1 ⟨rfl, hb1⟩; obtain ⟨hc1, hf1⟩ := bcell hb1; have hz1 := hb1.size; (try simp only [World.size_alloc] at hz1); (try simp only [World.size_setCell] at hz1); (try simp only [World.size_drew] at hz1); (try have L1 : w.heap.size < w1.heap.size := by omega); have B1 : Below w.heap.size w w1 := bel_tr (by first | (go_grown; done) | (go_split_ands; assumption)) hb1)
    go_wp2_with fail
    go_ret2
    exact Two.mk E.out B1
end Go.Proofs.YtnccooeaeomjfaaDoor
