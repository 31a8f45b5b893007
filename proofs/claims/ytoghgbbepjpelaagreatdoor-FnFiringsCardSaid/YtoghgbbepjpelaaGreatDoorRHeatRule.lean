/- Records of type HeatRule; slices of them that read as lists; the contracts of the law's own helpers over them: szHeatRuleS, toHeatRule, toHeatRuleS, eqHeatRule, eqHeatRuleS. -/
import Derived.Test.YtoghgbbepjpelaaGreatDoorRows
import Derived.Test.YtoghgbbepjpelaaGreatDoorRc
namespace Go.Proofs.YtoghgbbepjpelaaGreatDoor
open Go.RowKit
set_option linter.unusedVariables false

structure HeatRule where
  Upto : Int
  Rise : Int
  Hold : Int
instance : Inhabited HeatRule := ⟨⟨0, 0, 0⟩⟩
/-- The record that begins at a cell. -/
def HeatRule.lies (r : HeatRule) (w : World) (b o : Nat) : Prop := w.cell? ⟨b, o, none⟩ = some (.int .i64 r.Upto) ∧ w.cell? ⟨b, o + 1, none⟩ = some (.int .i64 r.Rise) ∧ w.cell? ⟨b, o + 2, none⟩ = some (.int .i64 r.Hold)
theorem HeatRule.lies.keep {r : HeatRule} {w w' : World} {b o : Nat} (h : r.lies w b o) (hk : ∀ o, w'.cell? ⟨b, o, none⟩ = w.cell? ⟨b, o, none⟩) : r.lies w' b o := by
  obtain ⟨h0, h1, h2⟩ := h
  exact ⟨(hk _).trans h0, (hk _).trans h1, (hk _).trans h2⟩
/-- A slice of records that reads as a list. -/
structure HeatRuleS (w : World) (A : Option Addr) (n : Nat) (xs : List HeatRule) : Prop where
  len : xs.length = n
  bound : n ≤ 1048576
  cell : 0 < n → ∃ b off, A = some ⟨b, off, none⟩ ∧ b < w.heap.size ∧ ∀ j, j < n → (nt xs j).lies w b (off + j * 3)
theorem HeatRuleS.below {w w' : World} {A : Option Addr} {n : Nat} {xs : List HeatRule} (h : HeatRuleS w A n xs) (hb : Below w.heap.size w w') : HeatRuleS w' A n xs :=
  ⟨h.len, h.bound, fun hn => by
    obtain ⟨b, off, e, hlt, hc⟩ := h.cell hn
    exact ⟨b, off, e, Nat.lt_of_lt_of_le hlt hb.size, fun j hj => (hc j hj).keep fun o => hb.cell (p := ⟨b, o, none⟩) hlt⟩⟩
theorem HeatRuleS.alloc {w : World} {A : Option Addr} {n : Nat} {xs : List HeatRule} (h : HeatRuleS w A n xs) (o : Obj) : HeatRuleS (w.alloc o) A n xs := h.below ((Below.refl _ _).alloc (Nat.le_refl _) _)
theorem HeatRuleS.drewN {w : World} {A : Option Addr} {n : Nat} {xs : List HeatRule} (h : HeatRuleS w A n xs) (q : Nat) : HeatRuleS (w.drewN q) A n xs := h.below (below_drewN (Below.refl _ _) q)
theorem HeatRuleS.nil (w : World) : HeatRuleS w none 0 [] := ⟨rfl, by omega, fun h => absurd h (by omega)⟩
/-- The same that came in: only the length's own bound. -/
structure HeatRuleRaw (w : World) (A : Option Addr) (n : Nat) (xs : List HeatRule) : Prop where
  len : xs.length = n
  bound : n ≤ 9223372036854775807
  cell : 0 < n → ∃ b off, A = some ⟨b, off, none⟩ ∧ b < w.heap.size ∧ ∀ j, j < n → (nt xs j).lies w b (off + j * 3)
theorem HeatRuleRaw.recs {w : World} {A : Option Addr} {n : Nat} {xs : List HeatRule} (h : HeatRuleRaw w A n xs) (hn : n ≤ 1048576) : HeatRuleS w A n xs := ⟨h.len, hn, h.cell⟩
theorem HeatRuleRaw.below {w w' : World} {A : Option Addr} {n : Nat} {xs : List HeatRule} (h : HeatRuleRaw w A n xs) (hb : Below w.heap.size w w') : HeatRuleRaw w' A n xs :=
  ⟨h.len, h.bound, fun hn => by
    obtain ⟨b, off, e, hlt, hc⟩ := h.cell hn
    exact ⟨b, off, e, Nat.lt_of_lt_of_le hlt hb.size, fun j hj => (hc j hj).keep fun o => hb.cell (p := ⟨b, o, none⟩) hlt⟩⟩


def HeatRule.at (r : HeatRule) (i : Nat) : Value := if i = 0 then .int .i64 r.Upto else if i = 1 then .int .i64 r.Rise else .int .i64 r.Hold
/-- The cells of a row of records of which the first k are laid. -/
def HeatRule.cells (xs : List HeatRule) (k : Nat) (c : Nat) : Value := if c / 3 < k then (nt xs (c / 3)).at (c % 3) else (default : HeatRule).at (c % 3)
end Go.Proofs.YtoghgbbepjpelaaGreatDoor
