/- The contracts of markRackS and heldRackS: a slice of records that the call may write is filled with rising numbers, and read again. -/
import Derived.Test.YtoghgbbepjpelaaDoorRRack
import Derived.Test.YtoghgbbepjpelaaDoorFz
namespace Go.Proofs.YtoghgbbepjpelaaDoor
open Go.RowKit
set_option linter.unusedVariables false

theorem RackS.grown {w w' : World} {A : Option Addr} {n : Nat} {xs : List Rack} {row : Option Nat} (h : RackS w A n xs) (hg : w.grownBy w' row) (hne : ∀ b off, A = some ⟨b, off, none⟩ → some b ≠ row) : RackS w' A n xs :=
  ⟨h.len, h.bound, fun hn => by
    obtain ⟨b, off, e, hb, hc⟩ := h.cell hn
    exact ⟨b, off, e, Nat.lt_of_lt_of_le hb hg.size, fun j hj => (hc j hj).keep fun o => World.cell?_of_block (hg.block b hb (hne b off e))⟩⟩
theorem RackS.cellsAt {w : World} {b off n : Nat} {xs : List Rack} (h : ∀ j, j < n → (nt xs j).lies w b (off + j * 4)) : CellsAt w b off (n * 4) (fun t => (nt xs (t / 4)).at (t % 4)) := fun t ht => by
  have hj : t / 4 < n := by omega
  obtain ⟨h0, h1, h2, h3⟩ := h (t / 4) hj
  have hm : t % 4 < 4 := Nat.mod_lt _ (by omega)
  have e : t = t / 4 * 4 + t % 4 := by omega
  show w.cell? _ = some ((nt xs (t / 4)).at (t % 4))
  generalize t / 4 = q at *
  generalize t % 4 = r at *
  subst e
  match r, hm with
  | 0, _ => simpa [Rack.at, Nat.add_assoc] using h0
  | 1, _ => simpa [Rack.at, Nat.add_assoc] using h1
  | 2, _ => simpa [Rack.at, Nat.add_assoc] using h2
  | 3, _ => simpa [Rack.at, Nat.add_assoc] using h3

end Go.Proofs.YtoghgbbepjpelaaDoor
