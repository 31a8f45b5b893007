/- Records of type Batch; slices of them that read as lists; the contracts of the law's own helpers over them: szBatchS, toBatch, toBatchS, eqBatch, eqBatchS. -/
import Derived.Test.YtmapjepdcbpalaaGreatDoorRows
import Derived.Test.YtmapjepdcbpalaaGreatDoorRc
namespace Go.Proofs.YtmapjepdcbpalaaGreatDoor
open Go.RowKit
set_option linter.unusedVariables false

structure Batch where
  Clay : Int
  Mould : Int
  Chamber : Int
  Bad : Bool
instance : Inhabited Batch := ⟨⟨0, 0, 0, false⟩⟩
/-- The record that begins at a cell. -/
def Batch.lies (r : Batch) (w : World) (b o : Nat) : Prop := w.cell? ⟨b, o, none⟩ = some (.int .i64 r.Clay) ∧ w.cell? ⟨b, o + 1, none⟩ = some (.int .i64 r.Mould) ∧ w.cell? ⟨b, o + 2, none⟩ = some (.int .i64 r.Chamber) ∧ w.cell? ⟨b, o + 3, none⟩ = some (.bool r.Bad)
theorem Batch.lies.keep {r : Batch} {w w' : World} {b o : Nat} (h : r.lies w b o) (hk : ∀ o, w'.cell? ⟨b, o, none⟩ = w.cell? ⟨b, o, none⟩) : r.lies w' b o := by
  obtain ⟨h0, h1, h2, h3⟩ := h
  exact ⟨(hk _).trans h0, (hk _).trans h1, (hk _).trans h2, (hk _).trans h3⟩
/-- A slice of records that reads as a list. -/
structure BatchS (w : World) (A : Option Addr) (n : Nat) (xs : List Batch) : Prop where
  len : xs.length = n
  bound : n ≤ 1048576
  cell : 0 < n → ∃ b off, A = some ⟨b, off, none⟩ ∧ b < w.heap.size ∧ ∀ j, j < n → (nt xs j).lies w b (off + j * 4)
theorem BatchS.below {w w' : World} {A : Option Addr} {n : Nat} {xs : List Batch} (h : BatchS w A n xs) (hb : Below w.heap.size w w') : BatchS w' A n xs :=
  ⟨h.len, h.bound, fun hn => by
    obtain ⟨b, off, e, hlt, hc⟩ := h.cell hn
    exact ⟨b, off, e, Nat.lt_of_lt_of_le hlt hb.size, fun j hj => (hc j hj).keep fun o => hb.cell (p := ⟨b, o, none⟩) hlt⟩⟩
theorem BatchS.alloc {w : World} {A : Option Addr} {n : Nat} {xs : List Batch} (h : BatchS w A n xs) (o : Obj) : BatchS (w.alloc o) A n xs := h.below ((Below.refl _ _).alloc (Nat.le_refl _) _)
theorem BatchS.drewN {w : World} {A : Option Addr} {n : Nat} {xs : List Batch} (h : BatchS w A n xs) (q : Nat) : BatchS (w.drewN q) A n xs := h.below (below_drewN (Below.refl _ _) q)
theorem BatchS.nil (w : World) : BatchS w none 0 [] := ⟨rfl, by omega, fun h => absurd h (by omega)⟩
/-- The same that came in: only the length's own bound. -/
structure BatchRaw (w : World) (A : Option Addr) (n : Nat) (xs : List Batch) : Prop where
  len : xs.length = n
  bound : n ≤ 9223372036854775807
  cell : 0 < n → ∃ b off, A = some ⟨b, off, none⟩ ∧ b < w.heap.size ∧ ∀ j, j < n → (nt xs j).lies w b (off + j * 4)
theorem BatchRaw.recs {w : World} {A : Option Addr} {n : Nat} {xs : List Batch} (h : BatchRaw w A n xs) (hn : n ≤ 1048576) : BatchS w A n xs := ⟨h.len, hn, h.cell⟩
theorem BatchRaw.below {w w' : World} {A : Option Addr} {n : Nat} {xs : List Batch} (h : BatchRaw w A n xs) (hb : Below w.heap.size w w') : BatchRaw w' A n xs :=
  ⟨h.len, h.bound, fun hn => by
    obtain ⟨b, off, e, hlt, hc⟩ := h.cell hn
    exact ⟨b, off, e, Nat.lt_of_lt_of_le hlt hb.size, fun j hj => (hc j hj).keep fun o => hb.cell (p := ⟨b, o, none⟩) hlt⟩⟩


def Batch.at (r : Batch) (i : Nat) : Value := if i = 0 then .int .i64 r.Clay else if i = 1 then .int .i64 r.Mould else if i = 2 then .int .i64 r.Chamber else .bool r.Bad
/-- The cells of a row of records of which the first k are laid. -/
def Batch.cells (xs : List Batch) (k : Nat) (c : Nat) : Value := if c / 4 < k then (nt xs (c / 4)).at (c % 4) else (default : Batch).at (c % 4)
end Go.Proofs.YtmapjepdcbpalaaGreatDoor
