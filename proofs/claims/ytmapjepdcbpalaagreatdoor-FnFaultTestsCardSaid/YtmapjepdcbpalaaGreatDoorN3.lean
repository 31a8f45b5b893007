/- Numbers out of texts: the reference's l01Number. -/
import Derived.Test.YtmapjepdcbpalaaGreatDoorN1
import Derived.Test.YtmapjepdcbpalaaGreatDoorPN
import Derived.Test.YtmapjepdcbpalaaGreatDoorSm
import Derived.Lib.IndexBytes
namespace Go.Proofs.YtmapjepdcbpalaaGreatDoor
open Go.RowKit
set_option linter.unusedVariables false

theorem str_ne {a b : ByteArray} (h : ¬ a = b) : (a.toList == b.toList) = false := by
  rw [beq_eq_false_iff_ne]
  intro e
  rw [Lib.toList_data, Lib.toList_data] at e
  exact h (Go.WideShapes.bytes_inj e)
def NumC (l : List UInt8) (w : World) (e : Ending) (w' : World) : Prop := e = .returned (.tuple #[.int .i64 ((numO l).getD 0), .bool (numO l).isSome]) ∧ Below w.heap.size w w'
theorem NumC.none_ {l : List UInt8} {w w' : World} (h : numO l = none) (hb : Below w.heap.size w w') : NumC l w (.returned (.tuple #[.int .i64 0, .bool false])) w' := ⟨by rw [h]; rfl, hb⟩
theorem NumC.some_ {l : List UInt8} {n : Int} {w w' : World} (h : numO l = some n) (hb : Below w.heap.size w w') : NumC l w (.returned (.tuple #[.int .i64 n, .bool true])) w' := ⟨by rw [h]; rfl, hb⟩
theorem numO_len {l : List UInt8} (h : ¬ (1 ≤ (bodyL l).length ∧ (bodyL l).length ≤ 18)) : numO l = none := by rw [numO, if_neg h]
theorem numO_bad {l : List UInt8} (h : Lib.decFrom 0 (bodyL l) = none) : numO l = none := by
  rw [numO]; split
  · rw [h]
  · rfl
theorem numO_yes {l : List UInt8} {u : Nat} (h1 : 1 ≤ (bodyL l).length) (h2 : (bodyL l).length ≤ 18) (h : Lib.decFrom 0 (bodyL l) = some u) (hi : Lib.itoa (sgn (negB l) u) = l) : numO l = some (sgn (negB l) u) := by
  rw [numO, if_pos ⟨h1, h2⟩, h]; simp only [if_pos hi]
theorem numO_no {l : List UInt8} {u : Nat} (h : Lib.decFrom 0 (bodyL l) = some u) (hi : Lib.itoa (sgn (negB l) u) ≠ l) : numO l = none := by
  rw [numO]; split
  · rw [h]; simp only [if_neg hi]
  · rfl
theorem digitVal_some {b : UInt8} (h : inB (b.toNat : Int) 48 57 = true) : Lib.digitVal b = some (b.toNat - 48) := by
  have := inB_true.1 h
  rw [Lib.digitVal, if_pos (by omega)]
theorem digitVal_none {b : UInt8} (h : inB (b.toNat : Int) 48 57 = false) : Lib.digitVal b = none := by
  have := inB_false.1 h
  rw [Lib.digitVal, if_neg (by omega)]
theorem pow_18 {k : Nat} (h : k ≤ 17) : 10 ^ k ≤ 100000000000000000 := Nat.le_trans (Nat.pow_le_pow_right (by omega) h) (by decide)
theorem pow_18' {k : Nat} (h : k ≤ 18) : 10 ^ k ≤ 1000000000000000000 := Nat.le_trans (Nat.pow_le_pow_right (by omega) h) (by decide)
theorem get_list {s : ByteArray} {k : Nat} (h : k < s.size) : s.data.toList[k]? = some s[k] := by
  rw [List.getElem?_eq_getElem (by rw [← Lib.size_eq]; exact h)]; rfl
end Go.Proofs.YtmapjepdcbpalaaGreatDoor
