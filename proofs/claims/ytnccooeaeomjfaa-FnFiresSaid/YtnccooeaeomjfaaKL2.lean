/- The contracts of the law's own helpers over a kiln that is written: toKiln, markKiln. -/
import Derived.Test.YtnccooeaeomjfaaKL
import Derived.Test.YtnccooeaeomjfaaMk
namespace Go.Proofs.Ytnccooeaeomjfaa
open Go.RowKit
set_option linter.unusedVariables false

def IsKilnF (ch : Int) (n : Nat) (xs : List Int) (w : World) (e : Ending) (w' : World) : Prop :=
  ∃ b, e = .returned (.agg #[.int .i64 ch, .slice (some ⟨b, 0, none⟩) n n]) ∧ w.heap.size ≤ b ∧ b < w'.heap.size ∧ (∀ o, w'.frozen? ⟨b, o, none⟩ = false) ∧ Ints w' (some ⟨b, 0, none⟩) n xs ∧ Below w.heap.size w w'
theorem toKiln_fz (ch : Int) (A : Option Addr) (n c : Nat) (xs : List Int) (w : World) (hA : Ints w A n xs) :
    Calls Try.prog 15 #[.agg #[.int .i64 ch, .slice A n c]] w (IsKilnF ch n xs w) := by
  go_enter Try.func15, Try.ntmps15
  go_wp2_with (go_at_call 21; refine (toInt_fz _ _ _ xs _ (hA.below (by first | (go_grown; done) | (go_split_ands; assumption)))).mono ?_; rintro e w1 ⟨b, rfl, hlb, hlt, hfz, hI, hb1⟩; have HFZ := Lib.hid hfz; clear hfz; obtain ⟨hc1, hf1⟩ := bcell hb1; have hz1 := hb1.size; simp at hz1 hlb)
  refine bodyPost_ret (v := .agg #[.int .i64 ch, .slice (some ⟨b, 0, none⟩) n n]) (by simp [results, Try.results15, go_sem, hc1]) rfl
    ⟨b, rfl, by omega, by simpa [World.setCell] using hlt, fun o => by simp only [World.frozen?_setCell]; exact HFZ.out o, ((hI.far (by simp; omega) _).far (by simp; omega) _).far (by simp; omega) _, ?_⟩
  exact (((Below.trans (by go_grown) (hb1.mono (by simp; omega))).setCell (by simp; omega) _).setCell (by simp) _).setCell (by simp) _

def MarkedK (b n : Nat) (k : Int) (w : World) (e : Ending) (w' : World) : Prop := e = .returned (.int .i64 (k + n)) ∧ w.grownBy w' (some b)
theorem markKiln_any (ch : Int) (b n c : Nat) (xs : List Int) (k : Int) (w : World) (hA : Ints w (some ⟨b, 0, none⟩) n xs) (hF : Fz w (some ⟨b, 0, none⟩)) (hb : b < w.heap.size) (h0 : 0 ≤ k) (h1 : k ≤ 1000000000) :
    Calls Try.prog 28 #[.agg #[.int .i64 ch, .slice (some ⟨b, 0, none⟩) n c], .int .i64 k] w (MarkedK b n k w) := by
  have hn := hA.bound
  have HF := Lib.hid hF; clear hF
  have hbel : Below w.heap.size w (w.alloc (.cells #[.int .i64 ch, .slice (some ⟨b, 0, none⟩) n c] 27)) := (Below.refl _ _).alloc (Nat.le_refl _) _
  go_enter Try.func28, Try.ntmps28
  go_wp2_with fail
  refine (markInt_any _ _ _ _ _ _ (hA.below hbel) (HF.out.of_below (fun b' off e => by simp only [Option.some.injEq, Addr.mk.injEq, and_true] at e; omega) hbel) h0 h1).mono ?_; rintro e w1 ⟨rfl, hR, hM, hg⟩
  have hg : (w.alloc (.cells #[.int .i64 ch, .slice (some ⟨b, 0, none⟩) n c] 27)).grownBy w1 (some b) := hg
  clear hR hM
  go_wp2_with fail
  go_ret
  exact ⟨rfl, hg.os.trans hbel.os, hg.tape.trans hbel.tape, hg.output.trans hbel.output, Nat.le_trans hbel.size hg.size, fun i hi hne => (hg.block i (Nat.lt_of_lt_of_le hi hbel.size) hne).trans (hbel.block i hi)⟩
end Go.Proofs.Ytnccooeaeomjfaa
