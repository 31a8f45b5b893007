/- Records of type Rack; slices of them that read as lists; the contracts of the law's own helpers over them: szRackS, toRack, toRackS, eqRack, eqRackS. -/
import Derived.Test.YtoghgbbepjpelaaDoorRows
import Derived.Test.YtoghgbbepjpelaaDoorRc
namespace Go.Proofs.YtoghgbbepjpelaaDoor
open Go.RowKit
set_option linter.unusedVariables false

structure Rack where
  Room : Int
  Holds : Int
  Since : Int
  Needs : Int
instance : Inhabited Rack := ⟨⟨0, 0, 0, 0⟩⟩
/-- The record that begins at a cell. -/
def Rack.lies (r : Rack) (w : World) (b o : Nat) : Prop := w.cell? ⟨b, o, none⟩ = some (.int .i64 r.Room) ∧ w.cell? ⟨b, o + 1, none⟩ = some (.int .i64 r.Holds) ∧ w.cell? ⟨b, o + 2, none⟩ = some (.int .i64 r.Since) ∧ w.cell? ⟨b, o + 3, none⟩ = some (.int .i64 r.Needs)
theorem Rack.lies.keep {r : Rack} {w w' : World} {b o : Nat} (h : r.lies w b o) (hk : ∀ o, w'.cell? ⟨b, o, none⟩ = w.cell? ⟨b, o, none⟩) : r.lies w' b o := by
  obtain ⟨h0, h1, h2, h3⟩ := h
  exact ⟨(hk _).trans h0, (hk _).trans h1, (hk _).trans h2, (hk _).trans h3⟩
/-- A slice of records that reads as a list. -/
structure RackS (w : World) (A : Option Addr) (n : Nat) (xs : List Rack) : Prop where
  len : xs.length = n
  bound : n ≤ 1048576
  cell : 0 < n → ∃ b off, A = some ⟨b, off, none⟩ ∧ b < w.heap.size ∧ ∀ j, j < n → (nt xs j).lies w b (off + j * 4)
theorem RackS.below {w w' : World} {A : Option Addr} {n : Nat} {xs : List Rack} (h : RackS w A n xs) (hb : Below w.heap.size w w') : RackS w' A n xs :=
  ⟨h.len, h.bound, fun hn => by
    obtain ⟨b, off, e, hlt, hc⟩ := h.cell hn
    exact ⟨b, off, e, Nat.lt_of_lt_of_le hlt hb.size, fun j hj => (hc j hj).keep fun o => hb.cell (p := ⟨b, o, none⟩) hlt⟩⟩
theorem RackS.alloc {w : World} {A : Option Addr} {n : Nat} {xs : List Rack} (h : RackS w A n xs) (o : Obj) : RackS (w.alloc o) A n xs := h.below ((Below.refl _ _).alloc (Nat.le_refl _) _)
theorem RackS.drewN {w : World} {A : Option Addr} {n : Nat} {xs : List Rack} (h : RackS w A n xs) (q : Nat) : RackS (w.drewN q) A n xs := h.below (below_drewN (Below.refl _ _) q)
theorem RackS.nil (w : World) : RackS w none 0 [] := ⟨rfl, by omega, fun h => absurd h (by omega)⟩
/-- The same that came in: only the length's own bound. -/
structure RackRaw (w : World) (A : Option Addr) (n : Nat) (xs : List Rack) : Prop where
  len : xs.length = n
  bound : n ≤ 9223372036854775807
  cell : 0 < n → ∃ b off, A = some ⟨b, off, none⟩ ∧ b < w.heap.size ∧ ∀ j, j < n → (nt xs j).lies w b (off + j * 4)
theorem RackRaw.recs {w : World} {A : Option Addr} {n : Nat} {xs : List Rack} (h : RackRaw w A n xs) (hn : n ≤ 1048576) : RackS w A n xs := ⟨h.len, hn, h.cell⟩
theorem RackRaw.below {w w' : World} {A : Option Addr} {n : Nat} {xs : List Rack} (h : RackRaw w A n xs) (hb : Below w.heap.size w w') : RackRaw w' A n xs :=
  ⟨h.len, h.bound, fun hn => by
    obtain ⟨b, off, e, hlt, hc⟩ := h.cell hn
    exact ⟨b, off, e, Nat.lt_of_lt_of_le hlt hb.size, fun j hj => (hc j hj).keep fun o => hb.cell (p := ⟨b, o, none⟩) hlt⟩⟩


def Rack.at (r : Rack) (i : Nat) : Value := if i = 0 then .int .i64 r.Room else if i = 1 then .int .i64 r.Holds else if i = 2 then .int .i64 r.Since else .int .i64 r.Needs
/-- The cells of a row of records of which the first k are laid. -/
def Rack.cells (xs : List Rack) (k : Nat) (c : Nat) : Value := if c / 4 < k then (nt xs (c / 4)).at (c % 4) else (default : Rack).at (c % 4)
end Go.Proofs.YtoghgbbepjpelaaDoor
