/- The contracts of the law's own helpers over a kiln: szKiln, toKiln, eqKiln; and spec.ValidKiln. -/
import Derived.Test.YtnccooeaeomjfaaK3
import Derived.Test.YtnccooeaeomjfaaCo
namespace Go.Proofs.Ytnccooeaeomjfaa
open Go.RowKit
set_option linter.unusedVariables false

theorem szKiln_any (ch : Int) (A : Option Addr) (n c : Nat) (left : Int) (w : World) (hn : n ≤ 9223372036854775807) (h0 : 0 ≤ left) (h1 : left ≤ 1048576) :
    Calls Try.prog 13 #[.agg #[.int .i64 ch, .slice A n c], .int .i64 left] w fun e w' => e = .returned (.int .i64 (if left < n then -1 else left - n)) ∧ Below w.heap.size w w' := by
  by_cases h : left < n
  all_goals
    simp only [h, if_true, if_false]
    go_enter Try.func13, Try.ntmps13
    go_wp2_with (go_at_call 44; refine (szInt_any _ _ _ _ _ hn h0 h1).mono ?_; simp only [h, if_true, if_false]; rintro e w' ⟨rfl, rfl⟩)
    go_ret
    exact ⟨rfl, by go_grown⟩

theorem Ints.far {w : World} {b n : Nat} {xs : List Int} (h : Ints w (some ⟨b, 0, none⟩) n xs) {p : Addr} (hp : b ≠ p.block) (u : Value) : Ints (w.setCell p u) (some ⟨b, 0, none⟩) n xs :=
  ⟨h.len, h.bound, fun hn => by
    obtain ⟨b', off, e, hb, hc⟩ := h.cell hn
    simp only [Option.some.injEq, Addr.mk.injEq, and_true] at e
    obtain ⟨rfl, rfl⟩ := e
    exact ⟨_, _, rfl, by simpa using hb, fun j hj => (World.cell?_setCell_other w p _ u (fun e => hp (by rw [e]))).trans (hc j hj)⟩⟩
def IsKiln (ch : Int) (n : Nat) (xs : List Int) (w : World) (e : Ending) (w' : World) : Prop :=
  ∃ b, e = .returned (.agg #[.int .i64 ch, .slice (some ⟨b, 0, none⟩) n n]) ∧ Ints w' (some ⟨b, 0, none⟩) n xs ∧ Below w.heap.size w w'
theorem toKiln_any (ch : Int) (A : Option Addr) (n c : Nat) (xs : List Int) (w : World) (hA : Ints w A n xs) :
    Calls Try.prog 15 #[.agg #[.int .i64 ch, .slice A n c]] w (IsKiln ch n xs w) := by
  go_enter Try.func15, Try.ntmps15
  go_wp2_with (go_at_call 21; refine (toInt_any _ _ _ xs _ (hA.below (by first | (go_grown; done) | (go_split_ands; assumption)))).mono ?_; rintro e w1 ⟨b, rfl, hlb, hI, hb1⟩; obtain ⟨hc1, hf1⟩ := bcell hb1; have hz1 := hb1.size; simp at hz1 hlb)
  refine bodyPost_ret (v := .agg #[.int .i64 ch, .slice (some ⟨b, 0, none⟩) n n]) (by simp [results, Try.results15, go_sem, hc1]) rfl
    ⟨b, rfl, ((hI.far (by simp; omega) _).far (by simp; omega) _).far (by simp; omega) _, ?_⟩
  exact (((Below.trans (by go_grown) (hb1.mono (by simp; omega))).setCell (by simp; omega) _).setCell (by simp) _).setCell (by simp) _

theorem eqKiln_any (ch : Int) (A B : Option Addr) (n m c d : Nat) (xs : List Int) (w : World) (hA : Ints w A n xs) (hB : Ints w B m xs) :
    Calls Try.prog 17 #[.agg #[.int .i64 ch, .slice A n c], .agg #[.int .i64 ch, .slice B m d]] w fun e w' => e = .returned (.bool true) ∧ Below w.heap.size w w' := by
  have hne : (ch != ch) = false := by simp
  go_enter Try.func17, Try.ntmps17
  go_wp2_with (go_at_call 23; refine (asB (eqInt_any _ _ _ _ _ _ xs xs _ (hA.below (by first | (go_grown; done) | (go_split_ands; assumption))) (hB.below (by first | (go_grown; done) | (go_split_ands; assumption)))) (decide_eq_true rfl)).mono ?_; rintro e w' ⟨rfl, q, rfl⟩)
  go_ret
  exact ⟨rfl, below_drewN (by go_grown) _⟩

theorem specValidKiln_any (ch : Int) (A : Option Addr) (n c : Nat) (xs : List Int) (w : World) (hA : Ints w A n xs) :
    Calls Try.prog 14 #[.agg #[.int .i64 ch, .slice A n c]] w fun e w' => e = .returned (.bool (okB ch xs)) ∧ Below w.heap.size w w' := by
  go_enter Try.func14, Try.ntmps14
  go_wp2_with (go_at_call 45; refine (l17Ok_any (b := w.heap.size) (ch := ch) (A := A) (n := n) (c := c) (xs := xs) _ ⟨by simp, by go_simp, by go_simp, hA.below (by first | (go_grown; done) | (go_split_ands; assumption))⟩).mono ?_; rintro e w' ⟨rfl, q, rfl⟩)
  go_ret
  exact ⟨rfl, below_drewN (by go_grown) _⟩
end Go.Proofs.Ytnccooeaeomjfaa
