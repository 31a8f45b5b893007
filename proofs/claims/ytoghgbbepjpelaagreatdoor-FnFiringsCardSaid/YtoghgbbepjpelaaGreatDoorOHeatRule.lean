/- Rows of records of type HeatRule that a call may write. No function is walked here. -/
import Derived.Test.YtoghgbbepjpelaaGreatDoorRHeatRule
namespace Go.Proofs.YtoghgbbepjpelaaGreatDoor
open Go.RowKit
set_option linter.unusedVariables false

/-- A row of n records, from the block's beginning on, that may be written. -/
structure RowFHeatRule (w : World) (g n : Nat) (f : Nat → HeatRule) : Prop where
  lt : g < w.heap.size
  cell : ∀ j, j < n → (f j).lies w g (j * 3)
  frozen : ∀ o, w.frozen? ⟨g, o, none⟩ = false
theorem RowFHeatRule.below {w w' : World} {g n : Nat} {f : Nat → HeatRule} (h : RowFHeatRule w g n f) (hb : Below w.heap.size w w') : RowFHeatRule w' g n f :=
  ⟨Nat.lt_of_lt_of_le h.lt hb.size, fun j hj => (h.cell j hj).keep fun o => hb.cell (p := ⟨g, o, none⟩) h.lt, fun o => (hb.frozen (p := ⟨g, o, none⟩) h.lt).trans (h.frozen o)⟩
theorem RowFHeatRule.step {w w' : World} {g n B : Nat} {f : Nat → HeatRule} (h : RowFHeatRule w g n f) (hb : Below B w w') (hB : g < B) : RowFHeatRule w' g n f :=
  ⟨Nat.lt_of_lt_of_le h.lt hb.size, fun j hj => (h.cell j hj).keep fun o => hb.cell (p := ⟨g, o, none⟩) hB, fun o => (hb.frozen (p := ⟨g, o, none⟩) hB).trans (h.frozen o)⟩
theorem RowFHeatRule.grownF {w w' : World} {g n p : Nat} {f : Nat → HeatRule} (h : RowFHeatRule w g n f) (hg : w.grownBy w' (some p)) (hp : g ≠ p) : RowFHeatRule w' g n f :=
  ⟨Nat.lt_of_lt_of_le h.lt hg.size, fun j hj => (h.cell j hj).keep fun o => World.cell?_of_block (hg.block g h.lt (fun e => hp (by simpa using e))), fun o => (World.frozen?_of_block (hg.block g h.lt (fun e => hp (by simpa using e)))).trans (h.frozen o)⟩
theorem RowFHeatRule.S {w : World} {g n : Nat} {l : List HeatRule} (h : RowFHeatRule w g n (nt l)) (hl : l.length = n) (hn : n ≤ 1048576) : HeatRuleS w (some ⟨g, 0, none⟩) n l :=
  ⟨hl, hn, fun _ => ⟨g, 0, rfl, h.lt, fun j hj => by rw [Nat.zero_add]; exact h.cell j hj⟩⟩
theorem RowFHeatRule.setUpto {w : World} {g n k : Nat} {f : Nat → HeatRule} (h : RowFHeatRule w g n f) (hk : k < n) (x : Int) : RowFHeatRule (w.setCell ⟨g, k * 3, none⟩ (.int .i64 x)) g n (fun j => if j = k then { f k with Upto := x } else f j) :=
  ⟨by have := h.lt; simpa [World.setCell] using this, fun j hj => by
    by_cases e : j = k
    · subst e
      obtain ⟨h0, h1, h2⟩ := h.cell j hj
      simp only [if_pos]
      exact ⟨World.cell?_setCell_same _ _ _ h0, (World.cell?_setCell_other _ _ _ _ (fun hh => by simp only [Addr.mk.injEq, true_and, and_true] at hh; omega)).trans h1, (World.cell?_setCell_other _ _ _ _ (fun hh => by simp only [Addr.mk.injEq, true_and, and_true] at hh; omega)).trans h2⟩
    · simp only [if_neg e]
      obtain ⟨h0, h1, h2⟩ := h.cell j hj
      exact ⟨(World.cell?_setCell_other _ _ _ _ (fun hh => by simp only [Addr.mk.injEq, true_and, and_true] at hh; omega)).trans h0, (World.cell?_setCell_other _ _ _ _ (fun hh => by simp only [Addr.mk.injEq, true_and, and_true] at hh; omega)).trans h1, (World.cell?_setCell_other _ _ _ _ (fun hh => by simp only [Addr.mk.injEq, true_and, and_true] at hh; omega)).trans h2⟩, fun o => by rw [World.frozen?_setCell]; exact h.frozen o⟩
theorem RowFHeatRule.setRise {w : World} {g n k : Nat} {f : Nat → HeatRule} (h : RowFHeatRule w g n f) (hk : k < n) (x : Int) : RowFHeatRule (w.setCell ⟨g, k * 3 + 1, none⟩ (.int .i64 x)) g n (fun j => if j = k then { f k with Rise := x } else f j) :=
  ⟨by have := h.lt; simpa [World.setCell] using this, fun j hj => by
    by_cases e : j = k
    · subst e
      obtain ⟨h0, h1, h2⟩ := h.cell j hj
      simp only [if_pos]
      exact ⟨(World.cell?_setCell_other _ _ _ _ (fun hh => by simp only [Addr.mk.injEq, true_and, and_true] at hh; omega)).trans h0, World.cell?_setCell_same _ _ _ h1, (World.cell?_setCell_other _ _ _ _ (fun hh => by simp only [Addr.mk.injEq, true_and, and_true] at hh; omega)).trans h2⟩
    · simp only [if_neg e]
      obtain ⟨h0, h1, h2⟩ := h.cell j hj
      exact ⟨(World.cell?_setCell_other _ _ _ _ (fun hh => by simp only [Addr.mk.injEq, true_and, and_true] at hh; omega)).trans h0, (World.cell?_setCell_other _ _ _ _ (fun hh => by simp only [Addr.mk.injEq, true_and, and_true] at hh; omega)).trans h1, (World.cell?_setCell_other _ _ _ _ (fun hh => by simp only [Addr.mk.injEq, true_and, and_true] at hh; omega)).trans h2⟩, fun o => by rw [World.frozen?_setCell]; exact h.frozen o⟩
theorem RowFHeatRule.setHold {w : World} {g n k : Nat} {f : Nat → HeatRule} (h : RowFHeatRule w g n f) (hk : k < n) (x : Int) : RowFHeatRule (w.setCell ⟨g, k * 3 + 2, none⟩ (.int .i64 x)) g n (fun j => if j = k then { f k with Hold := x } else f j) :=
  ⟨by have := h.lt; simpa [World.setCell] using this, fun j hj => by
    by_cases e : j = k
    · subst e
      obtain ⟨h0, h1, h2⟩ := h.cell j hj
      simp only [if_pos]
      exact ⟨(World.cell?_setCell_other _ _ _ _ (fun hh => by simp only [Addr.mk.injEq, true_and, and_true] at hh; omega)).trans h0, (World.cell?_setCell_other _ _ _ _ (fun hh => by simp only [Addr.mk.injEq, true_and, and_true] at hh; omega)).trans h1, World.cell?_setCell_same _ _ _ h2⟩
    · simp only [if_neg e]
      obtain ⟨h0, h1, h2⟩ := h.cell j hj
      exact ⟨(World.cell?_setCell_other _ _ _ _ (fun hh => by simp only [Addr.mk.injEq, true_and, and_true] at hh; omega)).trans h0, (World.cell?_setCell_other _ _ _ _ (fun hh => by simp only [Addr.mk.injEq, true_and, and_true] at hh; omega)).trans h1, (World.cell?_setCell_other _ _ _ _ (fun hh => by simp only [Addr.mk.injEq, true_and, and_true] at hh; omega)).trans h2⟩, fun o => by rw [World.frozen?_setCell]; exact h.frozen o⟩
end Go.Proofs.YtoghgbbepjpelaaGreatDoor
