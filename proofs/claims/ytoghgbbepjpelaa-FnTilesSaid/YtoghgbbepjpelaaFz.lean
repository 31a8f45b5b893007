/- A slice that a call may write: no cell of its block is frozen; what a call keeps that changes one block alone. No program is named here. -/
import Derived.Test.YtoghgbbepjpelaaBase
namespace Go.Proofs.Ytoghgbbepjpelaa
open Go.RowKit
set_option linter.unusedVariables false

/-- No cell of the slice's block is frozen. -/
def Fz (w : World) (A : Option Addr) : Prop := ∀ b off, A = some ⟨b, off, none⟩ → ∀ o, w.frozen? ⟨b, o, none⟩ = false
theorem Fz.none_ (w : World) : Fz w none := fun b off h => by cases h
theorem Fz.below {w w' : World} {A : Option Addr} {n : Nat} {xs : List Int} (h : Fz w A) (hI : ∀ b off, A = some ⟨b, off, none⟩ → b < w.heap.size) (hb : Below w.heap.size w w') : Fz w' A :=
  fun b off e o => (hb.frozen (p := ⟨b, o, none⟩) (hI b off e)).trans (h b off e o)
theorem Ints.grown {w w' : World} {A : Option Addr} {n : Nat} {xs : List Int} {row : Option Nat} (h : Ints w A n xs) (hg : w.grownBy w' row) (hne : ∀ b off, A = some ⟨b, off, none⟩ → some b ≠ row) : Ints w' A n xs :=
  ⟨h.len, h.bound, fun hn => by
    obtain ⟨b, off, e, hb, hc⟩ := h.cell hn
    exact ⟨b, off, e, Nat.lt_of_lt_of_le hb hg.size, fun j hj => (World.cell?_of_block (hg.block b hb (hne b off e))).trans (hc j hj)⟩⟩

theorem grown_set {a w : World} {g : Nat} (h : a.grownBy w (some g)) (o : Nat) (u : Value) : a.grownBy (w.setCell ⟨g, o, none⟩ u) (some g) :=
  ⟨h.os, h.tape, h.output, by simpa [World.setCell] using h.size, fun i hi hne => (Below.heap_setCell w ⟨g, o, none⟩ u i (fun e => hne (by rw [e]))).trans (h.block i hi hne)⟩

theorem Fz.mk_ {w : World} {b : Nat} (h : ∀ o, w.frozen? ⟨b, o, none⟩ = false) : Fz w (some ⟨b, 0, none⟩) := fun b' off e o => by
  simp only [Option.some.injEq, Addr.mk.injEq, and_true] at e
  obtain ⟨rfl, rfl⟩ := e
  exact h o
theorem Fz.of_below {w w' : World} {A : Option Addr} (h : Fz w A) (hI : ∀ b off, A = some ⟨b, off, none⟩ → b < w.heap.size) (hb : Below w.heap.size w w') : Fz w' A :=
  fun b off e o => (hb.frozen (p := ⟨b, o, none⟩) (hI b off e)).trans (h b off e o)
/-- A call that changes one block alone, which is not an old one. -/
theorem below_grown {B : Nat} {a w w' : World} {row : Option Nat} (h : Below B a w) (hg : w.grownBy w' row) (hB : B ≤ w.heap.size) (hr : ∀ k, row = some k → B ≤ k) : Below B a w' := h.grown hg hB hr
/-- The cells of a block from an offset on. -/
def CellsAt (w : World) (b off m : Nat) (g : Nat → Value) : Prop := ∀ t, t < m → w.cell? ⟨b, off + t, none⟩ = some (g t)
theorem CellsAt.set {w : World} {b off m : Nat} {g : Nat → Value} (h : CellsAt w b off m g) {s o : Nat} (hs : s < m) (ho : o = off + s) (u : Value) :
    CellsAt (w.setCell ⟨b, o, none⟩ u) b off m (fun t => if t = s then u else g t) := fun t ht => by
  subst ho
  by_cases e : t = s
  · subst e; rw [World.cell?_setCell_same _ _ _ (h t ht)]; simp
  · rw [World.cell?_setCell_other _ _ _ _ (fun hh => e (by simp only [Addr.mk.injEq, true_and, and_true] at hh; omega))]
    simp only [if_neg e]
    exact h t ht
/-- m rising numbers from k on, in the cells of a slice. -/
def RiseC (w : World) (A : Option Addr) (m : Nat) (k : Int) : Prop := 0 < m → ∃ b off, A = some ⟨b, off, none⟩ ∧ b < w.heap.size ∧ ∀ t, t < m → w.cell? ⟨b, off + t, none⟩ = some (.int .i64 (k + (t : Int)))
theorem RiseC.below {w w' : World} {A : Option Addr} {m : Nat} {k : Int} (h : RiseC w A m k) (hb : Below w.heap.size w w') : RiseC w' A m k := fun hm => by
  obtain ⟨b, off, e, hlt, hc⟩ := h hm
  exact ⟨b, off, e, Nat.lt_of_lt_of_le hlt hb.size, fun t ht => (hb.cell (p := ⟨b, off + t, none⟩) hlt).trans (hc t ht)⟩
end Go.Proofs.Ytoghgbbepjpelaa
