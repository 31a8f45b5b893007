/- Lists of records, by index. No program is named here. -/
import Derived.Test.YtoghgbbepjpelaaBase
import Derived.Test.YtoghgbbepjpelaaFr
import Derived.Laws.StructEq
import Derived.Laws.MakeOwn
import Derived.Deep.OwnRows
namespace Go.Proofs.Ytoghgbbepjpelaa
open Go.RowKit
set_option linter.unusedVariables false

/-- The k-th of a list; the default behind its end. -/
def nt {α : Type} [Inhabited α] (xs : List α) (k : Nat) : α := xs.getD k default
theorem nt_lt {α : Type} [Inhabited α] {xs : List α} {k : Nat} (h : k < xs.length) : nt xs k = xs[k] := by simp [nt, List.getD_eq_getElem?_getD, h]
theorem nt_mem {α : Type} [Inhabited α] {xs : List α} {k : Nat} (h : k < xs.length) : nt xs k ∈ xs := by rw [nt_lt h]; exact List.getElem_mem h
theorem take_snoc_nt {α : Type} [Inhabited α] {xs : List α} {k : Nat} (h : k < xs.length) : xs.take (k + 1) = xs.take k ++ [nt xs k] := by
  rw [List.take_succ_eq_append_getElem h, nt_lt h]
theorem drop_nt {α : Type} [Inhabited α] {xs : List α} {k : Nat} (h : k < xs.length) : xs.drop k = nt xs k :: xs.drop (k + 1) := by
  rw [List.drop_eq_getElem_cons h, nt_lt h]
theorem eq_of_nt {α : Type} [Inhabited α] {xs ys : List α} (hl : xs.length = ys.length) (h : ∀ k, k < xs.length → nt xs k = nt ys k) : xs = ys :=
  List.ext_getElem hl fun k h1 h2 => by have := h k h1; rwa [nt_lt h1, nt_lt h2] at this

/-- make of n records: an equation for every world. -/
theorem make_recs {P : Program} (t e : TypeId) (z : Value) (size bytes : Nat) (ht : P.underlying t = some (.slice e)) (hinfo : (P.info? e).map (fun i => (i.zero, i.size, i.bytes)) = some (some z, size, bytes)) (n : Nat)
    (hb : bytes * n ≤ 281474976710656) (hn : n ≤ 9223372036854775807) (w : World) :
    (Instr.makeSlice t (.int .i64 (n : Int)) (.int .i64 (n : Int))).run P w = .ok (.slice (some ⟨w.heap.size, 0, none⟩) n n) (w.alloc (.cells (madeCells z.cells (n * size)) e)) := by
  obtain ⟨i, hi, h3⟩ := Option.map_eq_some_iff.1 hinfo
  simp only [Prod.mk.injEq] at h3
  obtain ⟨hz, rfl, rfl⟩ := h3
  have hbi : (i.bytes : Int) * (n : Int) ≤ 281474976710656 := by rw [← Int.natCast_mul]; omega
  have hr := run_make (P := P) w t e i z ht hi hz .i64 .i64 (n : Int) (n : Int) (by omega) (Int.le_refl _) hbi (by omega)
  simpa only [Int.toNat_natCast] using hr
theorem rows_made (w : World) (z : Array Value) (n : Nat) (t : TypeId) (f : Nat → Value) (hf : ∀ i, i < n → z[i % z.size]? = some (f i)) : (w.alloc (.cells (madeCells z n) t)).rowIs w.heap.size t n f :=
  ⟨_, Go.Deep.blk_alloc_new _ _, size_madeCells _ _, fun i hi => by
    have h := hf i hi
    obtain ⟨hlt, he⟩ := Array.getElem?_eq_some_iff.1 h
    simp [madeCells, hi, he, getElem!_pos, hlt]⟩
theorem row_below {w w' : World} {b : Nat} {t : TypeId} {n : Nat} {f : Nat → Value} (h : w.rowIs b t n f) (hb : Below w.heap.size w w') : w'.rowIs b t n f := by
  have hl := h.lt
  obtain ⟨c, h1, h2, h3⟩ := h
  exact ⟨c, (hb.block b hl).trans h1, h2, h3⟩
end Go.Proofs.Ytoghgbbepjpelaa
