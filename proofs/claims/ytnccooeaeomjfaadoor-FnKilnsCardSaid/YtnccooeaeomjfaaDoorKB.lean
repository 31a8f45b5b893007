/- Kilns in blocks of a call's own. No function is named here. -/
import Derived.Test.YtnccooeaeomjfaaDoorBase
namespace Go.Proofs.YtnccooeaeomjfaaDoor
open Go.RowKit
set_option linter.unusedVariables false

/-- A kiln that lies in a block. -/
def KBox (w : World) (b : Nat) (ch : Int) (A : Option Addr) (n c : Nat) : Prop := b < w.heap.size ∧ w.cell? ⟨b, 0, none⟩ = some (.int .i64 ch) ∧ w.cell? ⟨b, 1, none⟩ = some (.slice A n c)
theorem KBox.new (W : World) (ch : Int) (A : Option Addr) (n c : Nat) (t : TypeId) : KBox (W.alloc (.cells #[.int .i64 ch, .slice A n c] t)) W.heap.size ch A n c := ⟨by simp, by go_simp, by go_simp⟩
theorem KBox.below {w w' : World} {b : Nat} {ch : Int} {A : Option Addr} {n c : Nat} (h : KBox w b ch A n c) (hb : Below w.heap.size w w') : KBox w' b ch A n c :=
  ⟨Nat.lt_of_lt_of_le h.1 hb.size, (hb.cell (p := ⟨b, 0, none⟩) h.1).trans h.2.1, (hb.cell (p := ⟨b, 1, none⟩) h.1).trans h.2.2⟩
theorem KBox.grown {w w' : World} {b : Nat} {ch : Int} {A : Option Addr} {n c : Nat} {row : Option Nat} (h : KBox w b ch A n c) (hg : w.grownBy w' row) (hne : row ≠ some b) : KBox w' b ch A n c :=
  ⟨Nat.lt_of_lt_of_le h.1 hg.size, (World.cell?_of_block (hg.block b h.1 (fun e => hne e.symm))).trans h.2.1, (World.cell?_of_block (hg.block b h.1 (fun e => hne e.symm))).trans h.2.2⟩

end Go.Proofs.YtnccooeaeomjfaaDoor
