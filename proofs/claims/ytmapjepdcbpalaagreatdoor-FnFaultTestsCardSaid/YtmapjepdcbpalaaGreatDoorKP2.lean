/- What is kept of a list; rows that a call may write; clearing a part of a slice. No function is named here. -/
import Derived.Test.YtmapjepdcbpalaaGreatDoorRc
import Derived.Test.YtmapjepdcbpalaaGreatDoorFz
import Derived.Laws.IdiomCopy
import Derived.Lib.SliceRun
namespace Go.Proofs.YtmapjepdcbpalaaGreatDoor
open Go.RowKit
set_option linter.unusedVariables false

/-- Of the first m places' elements those that are kept. -/
def keptL {α : Type} [Inhabited α] (kp : Nat → Bool) (l : List α) : Nat → List α
  | 0 => []
  | m + 1 => keptL kp l m ++ (if kp m = true then [nt l m] else [])
theorem keptL_yes {α : Type} [Inhabited α] {kp : Nat → Bool} {l : List α} {m : Nat} (h : kp m = true) : keptL kp l (m + 1) = keptL kp l m ++ [nt l m] := by rw [keptL, if_pos h]
theorem keptL_no {α : Type} [Inhabited α] {kp : Nat → Bool} {l : List α} {m : Nat} (h : kp m = false) : keptL kp l (m + 1) = keptL kp l m := by rw [keptL, h]; simp
theorem keptL_len {α : Type} [Inhabited α] (kp : Nat → Bool) (l : List α) : ∀ m, (keptL kp l m).length ≤ m := by
  intro m
  induction m with
  | zero => exact Nat.le_refl _
  | succ m ih => rw [keptL, List.length_append]; split <;> simp <;> omega
theorem keptL_all {α : Type} [Inhabited α] {kp : Nat → Bool} {l : List α} : ∀ {m : Nat}, m ≤ l.length → (∀ j, j < m → kp j = true) → keptL kp l m = l.take m
  | 0, _, _ => rfl
  | m + 1, h, k => by rw [keptL_yes (k m (by omega)), keptL_all (by omega) (fun j hj => k j (by omega)), take_snoc_nt (by omega)]
theorem keptL_filter {α : Type} [Inhabited α] {q : α → Bool} {l : List α} : ∀ {m : Nat}, m ≤ l.length → keptL (fun j => q (nt l j)) l m = (l.take m).filter q
  | 0, _ => rfl
  | m + 1, h => by
    rw [keptL, keptL_filter (by omega), take_snoc_nt (by omega), List.filter_append]
    congr 1
    rcases Bool.eq_false_or_eq_true (q (nt l m)) with g | g <;> simp [g]
/-- m places have been looked at; what is kept of them stands at the row's head; from there on the row is as it was. -/
structure KInv {α : Type} [Inhabited α] (kp : Nat → Bool) (l : List α) (m k : Nat) (f : Nat → α) : Prop where
  len : (keptL kp l m).length = k
  lt : k < m
  low : ∀ j, j < k → f j = nt (keptL kp l m) j
  high : ∀ j, k ≤ j → f j = nt l j
theorem KInv.start {α : Type} [Inhabited α] {kp : Nat → Bool} {l : List α} {k : Nat} (hk : k < l.length) (hall : ∀ j, j < k → kp j = true) (hno : kp k = false) : KInv kp l (k + 1) k (nt l) where
  len := by rw [keptL_no hno, keptL_all (by omega) hall, List.length_take]; omega
  lt := Nat.lt_succ_self _
  low := fun j hj => by
    rw [keptL_no hno, keptL_all (by omega) hall, nt_lt (by omega), nt_lt (by rw [List.length_take]; omega), List.getElem_take]
  high := fun _ _ => rfl
theorem KInv.yes {α : Type} [Inhabited α] {kp : Nat → Bool} {l : List α} {m k : Nat} {f : Nat → α} (h : KInv kp l m k f) (hk : kp m = true) : KInv kp l (m + 1) (k + 1) (fun j => if j = k then nt l m else f j) where
  len := by rw [keptL_yes hk, List.length_append, h.len]; rfl
  lt := by have := h.lt; omega
  low := fun j hj => by
    rw [keptL_yes hk]
    by_cases e : j = k
    · subst e
      rw [if_pos rfl]
      generalize nt l m = x
      rw [nt_lt (by rw [List.length_append, h.len]; simp), List.getElem_append_right (by rw [h.len]; exact Nat.le_refl _)]
      simp
    · rw [if_neg e, h.low j (by omega)]
      generalize nt l m = x
      rw [nt_lt (by rw [h.len]; omega), nt_lt (by rw [List.length_append, h.len]; simp; omega), List.getElem_append_left]
  high := fun j hj => by rw [if_neg (by omega), h.high j (by omega)]
theorem KInv.no {α : Type} [Inhabited α] {kp : Nat → Bool} {l : List α} {m k : Nat} {f : Nat → α} (h : KInv kp l m k f) (hk : kp m = false) : KInv kp l (m + 1) k f where
  len := by rw [keptL_no hk]; exact h.len
  lt := by have := h.lt; omega
  low := fun j hj => by rw [keptL_no hk]; exact h.low j hj
  high := h.high

theorem grown_bel {w w1 w2 : World} {r : Option Nat} (h : w.grownBy w1 r) (hb : Below w1.heap.size w1 w2) : w.grownBy w2 r :=
  ⟨hb.os.trans h.os, hb.tape.trans h.tape, hb.output.trans h.output, Nat.le_trans h.size hb.size, fun i hi hne => (hb.block i (Nat.lt_of_lt_of_le hi h.size)).trans (h.block i hi hne)⟩
theorem bel_grown {w w1 : World} {r : Option Nat} (hb : Below w.heap.size w w1) : w.grownBy w1 r :=
  ⟨hb.os, hb.tape, hb.output, hb.size, fun i hi _ => hb.block i hi⟩
theorem grown_tr {w w1 w2 : World} {r : Option Nat} (h : w.grownBy w1 r) (k : w1.grownBy w2 r) : w.grownBy w2 r :=
  ⟨k.os.trans h.os, k.tape.trans h.tape, k.output.trans h.output, Nat.le_trans h.size k.size, fun i hi hne => (k.block i (Nat.lt_of_lt_of_le hi h.size) hne).trans (h.block i hi hne)⟩
theorem grown_lt {w w1 : World} {r : Option Nat} (h : w.grownBy w1 r) {B : Nat} {a : World} (hb : Below B a w) (hB : B ≤ w.heap.size) (hr : ∀ k, r = some k → B ≤ k) : Below B a w1 := hb.grown h hB hr
theorem grown_setCells {a : World} {g : Nat} : ∀ (vs : List Value) (o : Nat) {w : World}, a.grownBy w (some g) → a.grownBy (w.setCells g o vs) (some g)
  | [], _, _, h => h
  | v :: r, o, w, h => grown_setCells r (o + 1) (grown_set h o v)

/-- clear of a slice with elements of more cells: the cells in front stay, no cell is frozen, and no other block changes. -/
theorem run_clear_k {P : Program} (w : World) (t e : TypeId) (z : Value) (k : Nat) (ht : P.underlying t = some (.slice e)) (hv : ∀ w, (zeroValue e).run P w = .ok z w) (hz : z.cells.size = k) (h1 : ∀ i : Nat, (z.cells[i % k]!).oneCell' = true) (b o n c : Nat)
    (hc : ∀ j, j < n * k → (w.cell? ⟨b, o + j, none⟩).isSome = true) (hf : ∀ j, w.frozen? ⟨b, j, none⟩ = false) :
    ∃ w', (∀ ty, (Builtin.clear_ #[t] ty #[.slice (some ⟨b, o, none⟩) n c]).run P w = .ok (.tuple #[]) w') ∧ w.grownBy w' (some b) ∧ w'.heap.size = w.heap.size ∧ (∀ j, j < o → w'.cell? ⟨b, j, none⟩ = w.cell? ⟨b, j, none⟩) ∧ ∀ j, w'.frozen? ⟨b, j, none⟩ = false := by
  rcases Nat.eq_zero_or_pos n with h0 | h0
  · subst h0
    exact ⟨w, fun ty => by simp [Builtin.clear_, run_underlying ht], World.grownBy.refl _ _, rfl, fun _ _ => rfl, hf⟩
  · have hl : (Builtin.zeroCells z.cells n).toList.length = n * k := by simp [Builtin.zeroCells, hz]
    have hst := run_storeCells_cells (P := P) b o (Builtin.zeroCells z.cells n).toList 0 w (by rw [hl]; simpa using hc) (fun j _ => hf _) (by
      intro v hv'
      simp only [Builtin.zeroCells, Array.toList_map, List.mem_map] at hv'
      obtain ⟨i, _, rfl⟩ := hv'
      rw [hz]; exact h1 i)
    simp only [Nat.add_zero] at hst
    refine ⟨w.setCells b o (Builtin.zeroCells z.cells n).toList, ?_, grown_setCells _ _ (World.grownBy.refl _ _), ?_, fun j hj => World.cell?_setCells_out b _ _ _ _ (fun _ _ => .inl hj), fun j => by rw [World.frozen?_setCells]; exact hf j⟩
    · intro ty
      obtain ⟨m, rfl⟩ : ∃ m, n = m + 1 := ⟨n - 1, by omega⟩
      simp [Builtin.clear_, run_underlying ht, hv, hst]
    · generalize (Builtin.zeroCells z.cells n).toList = vs
      clear hst hl hc hf
      induction vs generalizing o w with
      | nil => rfl
      | cons v r ih => rw [World.setCells, ih]; simp [World.setCell]
end Go.Proofs.YtmapjepdcbpalaaGreatDoor
