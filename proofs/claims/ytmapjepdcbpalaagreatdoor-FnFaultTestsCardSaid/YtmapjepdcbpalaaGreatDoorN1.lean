/- Numbers as texts: the reference's l01Dec. -/
import Derived.Test.YtmapjepdcbpalaaGreatDoorRows
import Derived.Test.YtmapjepdcbpalaaGreatDoorAp3
import Derived.Lib.ItoaNum
import Derived.Lib.ItoaLen
namespace Go.Proofs.YtmapjepdcbpalaaGreatDoor
open Go.RowKit
set_option linter.unusedVariables false

/-- The digits of a number; none of zero. -/
def digs (u : Nat) : List UInt8 := if h : u = 0 then [] else digs (u / 10) ++ [UInt8.ofNat (48 + u % 10)]
termination_by u
decreasing_by omega
theorem digs_zero : digs 0 = [] := by rw [digs, dif_pos rfl]
theorem digs_pos {u : Nat} (h : u ≠ 0) : digs u = digs (u / 10) ++ [UInt8.ofNat (48 + u % 10)] := by rw [digs, dif_neg h]
theorem digs_dec {u : Nat} (h : u ≠ 0) : digs u = Lib.decDigits u := by
  induction u using Nat.strongRecOn with
  | _ u ih =>
    rw [digs_pos h, Lib.decDigits]
    by_cases h1 : u < 10
    · rw [dif_pos h1, show u / 10 = 0 by omega, digs_zero, show u % 10 = u by omega]; rfl
    · rw [dif_neg h1, ih (u / 10) (by omega) (by omega)]
/-- A number as a text. -/
def decS (n : Int) : ByteArray := ⟨(Lib.itoa n).toArray⟩
theorem decS_size (n : Int) (h0 : -9223372036854775808 ≤ n) (h1 : n ≤ 9223372036854775807) : (decS n).size ≤ 21 := by
  have := Lib.itoa_length_le n h0 h1
  show (Lib.itoa n).toArray.size ≤ 21
  simpa using this
theorem digs_len (u : Nat) : ∀ k, u < 10 ^ k → (digs u).length ≤ k := by
  intro k
  induction k generalizing u with
  | zero => intro h; rw [show u = 0 by omega, digs_zero]; exact Nat.le_refl _
  | succ k ih =>
    intro h
    by_cases h0 : u = 0
    · rw [h0, digs_zero]; exact Nat.zero_le _
    · rw [digs_pos h0, List.length_append, List.length_singleton]
      have := ih (u / 10) (by rw [Nat.pow_succ] at h; omega)
      omega
theorem neg_tmod (a : Nat) : (-(a : Int)).tmod 10 = -((a % 10 : Nat) : Int) := by rw [Int.neg_tmod]; rfl
theorem neg_tdiv (a : Nat) : (-(a : Int)).tdiv 10 = -((a / 10 : Nat) : Int) := by rw [Int.neg_tdiv]; rfl

theorem digs_step {n k : Nat} {l : List UInt8} (h : digs n = digs k ++ l) (hk : k ≠ 0) : digs n = digs (k / 10) ++ (UInt8.ofNat (48 + k % 10) :: l) := by
  rw [h, digs_pos hk, List.append_assoc]; rfl
theorem byte_step (k : Nat) (l : List UInt8) : Lib.byteCells (UInt8.ofNat (48 + k % 10) :: l) = [.int .u8 (48 + (k : Int) % 10)] ++ Lib.byteCells l := by
  have hm := Nat.mod_lt k (show 10 > 0 by omega)
  have e : ((UInt8.ofNat (48 + k % 10)).toNat : Int) = 48 + (k : Int) % 10 := by
    rw [UInt8.toNat_ofNat', Nat.mod_eq_of_lt (by omega)]; omega
  simp only [Lib.byteCells, List.map_cons, e]; rfl
theorem byteOne {l : List UInt8} : ∀ u ∈ Lib.byteCells l, u.oneCell' = true := fun u hu => by
  obtain ⟨c, _, rfl⟩ := List.mem_map.1 hu
  rfl
theorem alloc_atS {w : World} {b o : Nat} {v : Value} (h : w.cell? ⟨b, o, none⟩ = some v) (hb : b < w.heap.size) (x : Obj) : (w.alloc x).cell? ⟨b, o, none⟩ = some v :=
  (((Below.refl w.heap.size w).alloc (Nat.le_refl _) x).cell (p := ⟨b, o, none⟩) hb).trans h
end Go.Proofs.YtmapjepdcbpalaaGreatDoor
