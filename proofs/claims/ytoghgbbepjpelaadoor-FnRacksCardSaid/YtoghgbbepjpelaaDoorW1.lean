/- Weather: the points of a byte, the points of some days, and the contracts of the small functions over it. -/
import Derived.Test.YtoghgbbepjpelaaDoorSm
import Derived.Test.YtoghgbbepjpelaaDoorWx
import Derived.Lib.Strings
import Derived.Lib.Slices
import Derived.Lib.Walk
import Derived.Lib.Bytealg
namespace Go.Proofs.YtoghgbbepjpelaaDoor
open Go.RowKit
set_option linter.unusedVariables false

/-- The points of a kind of weather; -1 if it is none. -/
def ptsI (c : Int) : Int := if c = 115 then 5 else if c = 119 then 4 else if c = 99 then 2 else if c = 114 ∨ c = 102 then 0 else -1
theorem ptsI_bound (c : Int) : -1 ≤ ptsI c ∧ ptsI c ≤ 5 := by unfold ptsI; split <;> (try split) <;> (try split) <;> (try split) <;> omega
def ptAt (s : ByteArray) (k : Nat) : Int := if h : k < s.size then ptsI (s[k].toNat : Int) else 0
theorem ptAt_lt {s : ByteArray} {k : Nat} (h : k < s.size) : ptAt s k = ptsI (s[k].toNat : Int) := by rw [ptAt, dif_pos h]
theorem ptAt_bound (s : ByteArray) (k : Nat) : -1 ≤ ptAt s k ∧ ptAt s k ≤ 5 := by
  unfold ptAt; split
  · exact ptsI_bound _
  · omega
def badDay (s : ByteArray) (k : Nat) : Bool := decide (ptAt s k < 0)
def weatherB (s : ByteArray) : Bool := decide (firstN (badDay s) s.size = s.size) && decide (s.size ≤ 60)
theorem weatherB_parts {s : ByteArray} (h : weatherB s = true) : s.size ≤ 60 ∧ ∀ k, 0 ≤ ptAt s k := by
  simp only [weatherB, Bool.and_eq_true, decide_eq_true_eq] at h
  refine ⟨h.2, fun k => ?_⟩
  rcases Nat.lt_or_ge k s.size with hk | hk
  · rcases Int.lt_or_le (ptAt s k) 0 with h0 | h0
    · exfalso
      have h1 := h.1
      rw [firstN] at h1
      cases hf : (List.range s.size).find? (badDay s) with
      | none =>
        rw [List.find?_range_eq_none] at hf
        have := hf k hk
        simp [badDay] at this
        omega
      | some j =>
        rw [hf] at h1
        rw [List.find?_range_eq_some] at hf
        have := hf.2.1
        simp at this h1
        omega
    · exact h0
  · rw [ptAt, dif_neg (by omega)]; omega
theorem weatherB_bad {s : ByteArray} {k : Nat} (hk : k < s.size) (h : badDay s k = true) (hn : NoneB (badDay s) k) : weatherB s = false := by
  rw [weatherB, firstN_some hk h hn]
  have : decide (k = s.size) = false := by simp; omega
  rw [this]; rfl
theorem weatherB_end {s : ByteArray} (hn : NoneB (badDay s) s.size) : weatherB s = decide (s.size ≤ 60) := by
  rw [weatherB, firstN_none hn]; simp

theorem byte_back (c : UInt8) : ((c.toNat : Int).toNat.toUInt8) = c := by simp
theorem index_swcrf (c : UInt8) : decide (Lib.indexByte [115, 119, 99, 114, 102] c < 0) = decide (ptsI (c.toNat : Int) < 0) := by
  have h : ∀ n : Fin 256, decide (Lib.indexByte [115, 119, 99, 114, 102] (UInt8.ofNat n.val) < 0) = decide (ptsI ((n.val : Nat) : Int) < 0) := by decide +kernel
  have hc : c.toNat < 256 := c.toNat_lt
  have := h ⟨c.toNat, hc⟩
  simpa using this

set_option maxRecDepth 100000 in
theorem indexByteL_any (s : ByteArray) (c : Int) (w : World) :
    Calls Tryd.prog 97 #[.string s, .int .u8 c] w fun e w' => e = .returned (.int .i64 (Lib.indexByte s.data.toList c.toNat.toUInt8)) ∧ w = w' := by
  go_enter Tryd.func97, Tryd.ntmps97
  go_wp2
  rw [run_callFunc_extern Tryd.func113 (by kernel_rfl) (by kernel_rfl) (by kernel_rfl) (e := Extern.BytealgIndexByte.indexByte) (by kernel_rfl), Lib.run_indexByteString]
  simp only [Result.andThen]
  rw [Oper.upon_value]
  go_wp2
  go_ret
  exact ⟨rfl, rfl⟩
end Go.Proofs.YtoghgbbepjpelaaDoor
