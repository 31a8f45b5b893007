/- Kilns in blocks of a call's own, and the contracts of the law's own helpers over any kiln: markKiln, heldKiln. -/
import Derived.Test.YtnccooeaeomjfaaKL2
import Derived.Test.YtnccooeaeomjfaaLs
namespace Go.Proofs.Ytnccooeaeomjfaa
open Go.RowKit
set_option linter.unusedVariables false

/-- A kiln that lies in a block. -/
def KBox (w : World) (b : Nat) (ch : Int) (A : Option Addr) (n c : Nat) : Prop := b < w.heap.size ∧ w.cell? ⟨b, 0, none⟩ = some (.int .i64 ch) ∧ w.cell? ⟨b, 1, none⟩ = some (.slice A n c)
theorem KBox.new (W : World) (ch : Int) (A : Option Addr) (n c : Nat) (t : TypeId) : KBox (W.alloc (.cells #[.int .i64 ch, .slice A n c] t)) W.heap.size ch A n c := ⟨by simp, by go_simp, by go_simp⟩
theorem KBox.below {w w' : World} {b : Nat} {ch : Int} {A : Option Addr} {n c : Nat} (h : KBox w b ch A n c) (hb : Below w.heap.size w w') : KBox w' b ch A n c :=
  ⟨Nat.lt_of_lt_of_le h.1 hb.size, (hb.cell (p := ⟨b, 0, none⟩) h.1).trans h.2.1, (hb.cell (p := ⟨b, 1, none⟩) h.1).trans h.2.2⟩
theorem KBox.grown {w w' : World} {b : Nat} {ch : Int} {A : Option Addr} {n c : Nat} {row : Option Nat} (h : KBox w b ch A n c) (hg : w.grownBy w' row) (hne : row ≠ some b) : KBox w' b ch A n c :=
  ⟨Nat.lt_of_lt_of_le h.1 hg.size, (World.cell?_of_block (hg.block b h.1 (fun e => hne e.symm))).trans h.2.1, (World.cell?_of_block (hg.block b h.1 (fun e => hne e.symm))).trans h.2.2⟩

theorem markKiln_gen (ch : Int) (A : Option Addr) (n c : Nat) (xs : List Int) (k : Int) (w : World) (hA : Ints w A n xs) (hF : Fz w A) (hlt : ∀ b off, A = some ⟨b, off, none⟩ → b < w.heap.size) (h0 : 0 ≤ k) (h1 : k ≤ 1000000000) :
    Calls Try.prog 28 #[.agg #[.int .i64 ch, .slice A n c], .int .i64 k] w (Marked A n k w) := by
  have hn := hA.bound
  have HF := Lib.hid hF; clear hF
  have HL := Lib.hid hlt; clear hlt
  have hbel : Below w.heap.size w (w.alloc (.cells #[.int .i64 ch, .slice A n c] 27)) := (Below.refl _ _).alloc (Nat.le_refl _) _
  go_enter Try.func28, Try.ntmps28
  go_wp2_with fail
  refine (markInt_any _ _ _ _ _ _ (hA.below hbel) (HF.out.of_below HL.out hbel) h0 h1).mono ?_; rintro e w1 ⟨rfl, hR, hM, hg⟩
  have hg : (w.alloc (.cells #[.int .i64 ch, .slice A n c] 27)).grownBy w1 (A.map (·.block)) := hg
  have HR := Lib.hid hR; have HM := Lib.hid hM; have HG := Lib.hid hg
  clear hR hM hg
  go_wp2_with fail
  go_ret
  have hg := HG.out
  exact ⟨rfl, HR.out, HM.out, hg.os.trans hbel.os, hg.tape.trans hbel.tape, hg.output.trans hbel.output, Nat.le_trans hbel.size hg.size, fun i hi hne => (hg.block i (Nat.lt_of_lt_of_le hi hbel.size) hne).trans (hbel.block i hi)⟩

theorem heldKiln_any (ch : Int) (A : Option Addr) (n c : Nat) (k : Int) (w : World) (hA : Ints w A n (rise k n)) (h0 : 0 ≤ k) (h1 : k ≤ 1000000000) :
    Calls Try.prog 29 #[.agg #[.int .i64 ch, .slice A n c], .int .i64 k] w fun e w' => e = .returned (.int .i64 (k + n)) ∧ Below w.heap.size w w' := by
  have hn := hA.bound
  go_enter Try.func29, Try.ntmps29
  go_wp2_with fail
  refine (heldInt_any _ _ _ _ _ (hA.below (by first | (go_grown; done) | (go_split_ands; assumption))) h0 h1).mono ?_; rintro e w' ⟨rfl, rfl⟩
  go_wp2_with fail
  go_ret
  exact ⟨rfl, by go_grown⟩
end Go.Proofs.Ytnccooeaeomjfaa
