/- Rows of records of type Rack that a call may write. No function is walked here. -/
import Derived.Test.YtoghgbbepjpelaaDoorRRack
namespace Go.Proofs.YtoghgbbepjpelaaDoor
open Go.RowKit
set_option linter.unusedVariables false

/-- A row of n records, from the block's beginning on, that may be written. -/
structure RowFRack (w : World) (g n : Nat) (f : Nat → Rack) : Prop where
  lt : g < w.heap.size
  cell : ∀ j, j < n → (f j).lies w g (j * 4)
  frozen : ∀ o, w.frozen? ⟨g, o, none⟩ = false
theorem RowFRack.below {w w' : World} {g n : Nat} {f : Nat → Rack} (h : RowFRack w g n f) (hb : Below w.heap.size w w') : RowFRack w' g n f :=
  ⟨Nat.lt_of_lt_of_le h.lt hb.size, fun j hj => (h.cell j hj).keep fun o => hb.cell (p := ⟨g, o, none⟩) h.lt, fun o => (hb.frozen (p := ⟨g, o, none⟩) h.lt).trans (h.frozen o)⟩
theorem RowFRack.step {w w' : World} {g n B : Nat} {f : Nat → Rack} (h : RowFRack w g n f) (hb : Below B w w') (hB : g < B) : RowFRack w' g n f :=
  ⟨Nat.lt_of_lt_of_le h.lt hb.size, fun j hj => (h.cell j hj).keep fun o => hb.cell (p := ⟨g, o, none⟩) hB, fun o => (hb.frozen (p := ⟨g, o, none⟩) hB).trans (h.frozen o)⟩
theorem RowFRack.grownF {w w' : World} {g n p : Nat} {f : Nat → Rack} (h : RowFRack w g n f) (hg : w.grownBy w' (some p)) (hp : g ≠ p) : RowFRack w' g n f :=
  ⟨Nat.lt_of_lt_of_le h.lt hg.size, fun j hj => (h.cell j hj).keep fun o => World.cell?_of_block (hg.block g h.lt (fun e => hp (by simpa using e))), fun o => (World.frozen?_of_block (hg.block g h.lt (fun e => hp (by simpa using e)))).trans (h.frozen o)⟩
theorem RowFRack.S {w : World} {g n : Nat} {l : List Rack} (h : RowFRack w g n (nt l)) (hl : l.length = n) (hn : n ≤ 1048576) : RackS w (some ⟨g, 0, none⟩) n l :=
  ⟨hl, hn, fun _ => ⟨g, 0, rfl, h.lt, fun j hj => by rw [Nat.zero_add]; exact h.cell j hj⟩⟩
theorem RowFRack.setRoom {w : World} {g n k : Nat} {f : Nat → Rack} (h : RowFRack w g n f) (hk : k < n) (x : Int) : RowFRack (w.setCell ⟨g, k * 4, none⟩ (.int .i64 x)) g n (fun j => if j = k then { f k with Room := x } else f j) :=
  ⟨by have := h.lt; simpa [World.setCell] using this, fun j hj => by
    by_cases e : j = k
    · subst e
      obtain ⟨h0, h1, h2, h3⟩ := h.cell j hj
      simp only [if_pos]
      exact ⟨World.cell?_setCell_same _ _ _ h0, (World.cell?_setCell_other _ _ _ _ (fun hh => by simp only [Addr.mk.injEq, true_and, and_true] at hh; omega)).trans h1, (World.cell?_setCell_other _ _ _ _ (fun hh => by simp only [Addr.mk.injEq, true_and, and_true] at hh; omega)).trans h2, (World.cell?_setCell_other _ _ _ _ (fun hh => by simp only [Addr.mk.injEq, true_and, and_true] at hh; omega)).trans h3⟩
    · simp only [if_neg e]
      obtain ⟨h0, h1, h2, h3⟩ := h.cell j hj
      exact ⟨(World.cell?_setCell_other _ _ _ _ (fun hh => by simp only [Addr.mk.injEq, true_and, and_true] at hh; omega)).trans h0, (World.cell?_setCell_other _ _ _ _ (fun hh => by simp only [Addr.mk.injEq, true_and, and_true] at hh; omega)).trans h1, (World.cell?_setCell_other _ _ _ _ (fun hh => by simp only [Addr.mk.injEq, true_and, and_true] at hh; omega)).trans h2, (World.cell?_setCell_other _ _ _ _ (fun hh => by simp only [Addr.mk.injEq, true_and, and_true] at hh; omega)).trans h3⟩, fun o => by rw [World.frozen?_setCell]; exact h.frozen o⟩
theorem RowFRack.setHolds {w : World} {g n k : Nat} {f : Nat → Rack} (h : RowFRack w g n f) (hk : k < n) (x : Int) : RowFRack (w.setCell ⟨g, k * 4 + 1, none⟩ (.int .i64 x)) g n (fun j => if j = k then { f k with Holds := x } else f j) :=
  ⟨by have := h.lt; simpa [World.setCell] using this, fun j hj => by
    by_cases e : j = k
    · subst e
      obtain ⟨h0, h1, h2, h3⟩ := h.cell j hj
      simp only [if_pos]
      exact ⟨(World.cell?_setCell_other _ _ _ _ (fun hh => by simp only [Addr.mk.injEq, true_and, and_true] at hh; omega)).trans h0, World.cell?_setCell_same _ _ _ h1, (World.cell?_setCell_other _ _ _ _ (fun hh => by simp only [Addr.mk.injEq, true_and, and_true] at hh; omega)).trans h2, (World.cell?_setCell_other _ _ _ _ (fun hh => by simp only [Addr.mk.injEq, true_and, and_true] at hh; omega)).trans h3⟩
    · simp only [if_neg e]
      obtain ⟨h0, h1, h2, h3⟩ := h.cell j hj
      exact ⟨(World.cell?_setCell_other _ _ _ _ (fun hh => by simp only [Addr.mk.injEq, true_and, and_true] at hh; omega)).trans h0, (World.cell?_setCell_other _ _ _ _ (fun hh => by simp only [Addr.mk.injEq, true_and, and_true] at hh; omega)).trans h1, (World.cell?_setCell_other _ _ _ _ (fun hh => by simp only [Addr.mk.injEq, true_and, and_true] at hh; omega)).trans h2, (World.cell?_setCell_other _ _ _ _ (fun hh => by simp only [Addr.mk.injEq, true_and, and_true] at hh; omega)).trans h3⟩, fun o => by rw [World.frozen?_setCell]; exact h.frozen o⟩
theorem RowFRack.setSince {w : World} {g n k : Nat} {f : Nat → Rack} (h : RowFRack w g n f) (hk : k < n) (x : Int) : RowFRack (w.setCell ⟨g, k * 4 + 2, none⟩ (.int .i64 x)) g n (fun j => if j = k then { f k with Since := x } else f j) :=
  ⟨by have := h.lt; simpa [World.setCell] using this, fun j hj => by
    by_cases e : j = k
    · subst e
      obtain ⟨h0, h1, h2, h3⟩ := h.cell j hj
      simp only [if_pos]
      exact ⟨(World.cell?_setCell_other _ _ _ _ (fun hh => by simp only [Addr.mk.injEq, true_and, and_true] at hh; omega)).trans h0, (World.cell?_setCell_other _ _ _ _ (fun hh => by simp only [Addr.mk.injEq, true_and, and_true] at hh; omega)).trans h1, World.cell?_setCell_same _ _ _ h2, (World.cell?_setCell_other _ _ _ _ (fun hh => by simp only [Addr.mk.injEq, true_and, and_true] at hh; omega)).trans h3⟩
    · simp only [if_neg e]
      obtain ⟨h0, h1, h2, h3⟩ := h.cell j hj
      exact ⟨(World.cell?_setCell_other _ _ _ _ (fun hh => by simp only [Addr.mk.injEq, true_and, and_true] at hh; omega)).trans h0, (World.cell?_setCell_other _ _ _ _ (fun hh => by simp only [Addr.mk.injEq, true_and, and_true] at hh; omega)).trans h1, (World.cell?_setCell_other _ _ _ _ (fun hh => by simp only [Addr.mk.injEq, true_and, and_true] at hh; omega)).trans h2, (World.cell?_setCell_other _ _ _ _ (fun hh => by simp only [Addr.mk.injEq, true_and, and_true] at hh; omega)).trans h3⟩, fun o => by rw [World.frozen?_setCell]; exact h.frozen o⟩
theorem RowFRack.setNeeds {w : World} {g n k : Nat} {f : Nat → Rack} (h : RowFRack w g n f) (hk : k < n) (x : Int) : RowFRack (w.setCell ⟨g, k * 4 + 3, none⟩ (.int .i64 x)) g n (fun j => if j = k then { f k with Needs := x } else f j) :=
  ⟨by have := h.lt; simpa [World.setCell] using this, fun j hj => by
    by_cases e : j = k
    · subst e
      obtain ⟨h0, h1, h2, h3⟩ := h.cell j hj
      simp only [if_pos]
      exact ⟨(World.cell?_setCell_other _ _ _ _ (fun hh => by simp only [Addr.mk.injEq, true_and, and_true] at hh; omega)).trans h0, (World.cell?_setCell_other _ _ _ _ (fun hh => by simp only [Addr.mk.injEq, true_and, and_true] at hh; omega)).trans h1, (World.cell?_setCell_other _ _ _ _ (fun hh => by simp only [Addr.mk.injEq, true_and, and_true] at hh; omega)).trans h2, World.cell?_setCell_same _ _ _ h3⟩
    · simp only [if_neg e]
      obtain ⟨h0, h1, h2, h3⟩ := h.cell j hj
      exact ⟨(World.cell?_setCell_other _ _ _ _ (fun hh => by simp only [Addr.mk.injEq, true_and, and_true] at hh; omega)).trans h0, (World.cell?_setCell_other _ _ _ _ (fun hh => by simp only [Addr.mk.injEq, true_and, and_true] at hh; omega)).trans h1, (World.cell?_setCell_other _ _ _ _ (fun hh => by simp only [Addr.mk.injEq, true_and, and_true] at hh; omega)).trans h2, (World.cell?_setCell_other _ _ _ _ (fun hh => by simp only [Addr.mk.injEq, true_and, and_true] at hh; omega)).trans h3⟩, fun o => by rw [World.frozen?_setCell]; exact h.frozen o⟩
end Go.Proofs.YtoghgbbepjpelaaDoor
