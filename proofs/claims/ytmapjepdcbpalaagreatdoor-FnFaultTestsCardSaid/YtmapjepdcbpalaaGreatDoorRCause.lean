/- Records of type Cause; slices of them that read as lists; the contracts of the law's own helpers over them: szCauseS, toCause, toCauseS, eqCause, eqCauseS. -/
import Derived.Test.YtmapjepdcbpalaaGreatDoorRows
import Derived.Test.YtmapjepdcbpalaaGreatDoorRc
namespace Go.Proofs.YtmapjepdcbpalaaGreatDoor
open Go.RowKit
set_option linter.unusedVariables false

structure Cause where
  Kind : Int
  Number : Int
instance : Inhabited Cause := ⟨⟨0, 0⟩⟩
/-- The record that begins at a cell. -/
def Cause.lies (r : Cause) (w : World) (b o : Nat) : Prop := w.cell? ⟨b, o, none⟩ = some (.int .i64 r.Kind) ∧ w.cell? ⟨b, o + 1, none⟩ = some (.int .i64 r.Number)
theorem Cause.lies.keep {r : Cause} {w w' : World} {b o : Nat} (h : r.lies w b o) (hk : ∀ o, w'.cell? ⟨b, o, none⟩ = w.cell? ⟨b, o, none⟩) : r.lies w' b o := by
  obtain ⟨h0, h1⟩ := h
  exact ⟨(hk _).trans h0, (hk _).trans h1⟩
/-- A slice of records that reads as a list. -/
structure CauseS (w : World) (A : Option Addr) (n : Nat) (xs : List Cause) : Prop where
  len : xs.length = n
  bound : n ≤ 1048576
  cell : 0 < n → ∃ b off, A = some ⟨b, off, none⟩ ∧ b < w.heap.size ∧ ∀ j, j < n → (nt xs j).lies w b (off + j * 2)
theorem CauseS.below {w w' : World} {A : Option Addr} {n : Nat} {xs : List Cause} (h : CauseS w A n xs) (hb : Below w.heap.size w w') : CauseS w' A n xs :=
  ⟨h.len, h.bound, fun hn => by
    obtain ⟨b, off, e, hlt, hc⟩ := h.cell hn
    exact ⟨b, off, e, Nat.lt_of_lt_of_le hlt hb.size, fun j hj => (hc j hj).keep fun o => hb.cell (p := ⟨b, o, none⟩) hlt⟩⟩
theorem CauseS.alloc {w : World} {A : Option Addr} {n : Nat} {xs : List Cause} (h : CauseS w A n xs) (o : Obj) : CauseS (w.alloc o) A n xs := h.below ((Below.refl _ _).alloc (Nat.le_refl _) _)
theorem CauseS.drewN {w : World} {A : Option Addr} {n : Nat} {xs : List Cause} (h : CauseS w A n xs) (q : Nat) : CauseS (w.drewN q) A n xs := h.below (below_drewN (Below.refl _ _) q)
theorem CauseS.nil (w : World) : CauseS w none 0 [] := ⟨rfl, by omega, fun h => absurd h (by omega)⟩
/-- The same that came in: only the length's own bound. -/
structure CauseRaw (w : World) (A : Option Addr) (n : Nat) (xs : List Cause) : Prop where
  len : xs.length = n
  bound : n ≤ 9223372036854775807
  cell : 0 < n → ∃ b off, A = some ⟨b, off, none⟩ ∧ b < w.heap.size ∧ ∀ j, j < n → (nt xs j).lies w b (off + j * 2)
theorem CauseRaw.recs {w : World} {A : Option Addr} {n : Nat} {xs : List Cause} (h : CauseRaw w A n xs) (hn : n ≤ 1048576) : CauseS w A n xs := ⟨h.len, hn, h.cell⟩
theorem CauseRaw.below {w w' : World} {A : Option Addr} {n : Nat} {xs : List Cause} (h : CauseRaw w A n xs) (hb : Below w.heap.size w w') : CauseRaw w' A n xs :=
  ⟨h.len, h.bound, fun hn => by
    obtain ⟨b, off, e, hlt, hc⟩ := h.cell hn
    exact ⟨b, off, e, Nat.lt_of_lt_of_le hlt hb.size, fun j hj => (hc j hj).keep fun o => hb.cell (p := ⟨b, o, none⟩) hlt⟩⟩


def Cause.at (r : Cause) (i : Nat) : Value := if i = 0 then .int .i64 r.Kind else .int .i64 r.Number
/-- The cells of a row of records of which the first k are laid. -/
def Cause.cells (xs : List Cause) (k : Nat) (c : Nat) : Value := if c / 2 < k then (nt xs (c / 2)).at (c % 2) else (default : Cause).at (c % 2)
end Go.Proofs.YtmapjepdcbpalaaGreatDoor
