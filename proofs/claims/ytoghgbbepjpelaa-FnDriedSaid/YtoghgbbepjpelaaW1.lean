/- Weather: the points of a byte, the points of some days, and the contracts of the small functions over it. -/
import Derived.Test.YtoghgbbepjpelaaSm
import Derived.Test.YtoghgbbepjpelaaWx
import Derived.Lib.Strings
import Derived.Lib.Slices
import Derived.Lib.Walk
import Derived.Lib.Bytealg
namespace Go.Proofs.Ytoghgbbepjpelaa
open Go.RowKit
set_option linter.unusedVariables false

/-- The points of a kind of weather; -1 if it is none. -/
def ptsI (c : Int) : Int := if c = 115 then 5 else if c = 119 then 4 else if c = 99 then 2 else if c = 114 ∨ c = 102 then 0 else -1
theorem ptsI_bound (c : Int) : -1 ≤ ptsI c ∧ ptsI c ≤ 5 := by unfold ptsI; split <;> (try split) <;> (try split) <;> (try split) <;> omega
def ptAt (s : ByteArray) (k : Nat) : Int := if h : k < s.size then ptsI (s[k].toNat : Int) else 0
theorem ptAt_lt {s : ByteArray} {k : Nat} (h : k < s.size) : ptAt s k = ptsI (s[k].toNat : Int) := by rw [ptAt, dif_pos h]
theorem ptAt_bound (s : ByteArray) (k : Nat) : -1 ≤ ptAt s k ∧ ptAt s k ≤ 5 := by
  unfold ptAt; split
  · exact ptsI_bound _
  · omega
def badDay (s : ByteArray) (k : Nat) : Bool := decide (ptAt s k < 0)
def weatherB (s : ByteArray) : Bool := decide (firstN (badDay s) s.size = s.size) && decide (s.size ≤ 60)
theorem weatherB_parts {s : ByteArray} (h : weatherB s = true) : s.size ≤ 60 ∧ ∀ k, 0 ≤ ptAt s k := by
  simp only [weatherB, Bool.and_eq_true, decide_eq_true_eq] at h
  refine ⟨h.2, fun k => ?_⟩
  rcases Nat.lt_or_ge k s.size with hk | hk
  · rcases Int.lt_or_le (ptAt s k) 0 with h0 | h0
    · exfalso
      have h1 := h.1
      rw [firstN] at h1
      cases hf : (List.range s.size).find? (badDay s) with
      | none =>
        rw [List.find?_range_eq_none] at hf
        have := hf k hk
        simp [badDay] at this
        omega
      | some j =>
        rw [hf] at h1
        rw [List.find?_range_eq_some] at hf
        have := hf.2.1
        simp at this h1
        omega
    · exact h0
  · rw [ptAt, dif_neg (by omega)]; omega
theorem weatherB_bad {s : ByteArray} {k : Nat} (hk : k < s.size) (h : badDay s k = true) (hn : NoneB (badDay s) k) : weatherB s = false := by
  rw [weatherB, firstN_some hk h hn]
  have : decide (k = s.size) = false := by simp; omega
  rw [this]; rfl
theorem weatherB_end {s : ByteArray} (hn : NoneB (badDay s) s.size) : weatherB s = decide (s.size ≤ 60) := by
  rw [weatherB, firstN_none hn]; simp

theorem byte_back (c : UInt8) : ((c.toNat : Int).toNat.toUInt8) = c := by simp
theorem index_swcrf (c : UInt8) : decide (Lib.indexByte [115, 119, 99, 114, 102] c < 0) = decide (ptsI (c.toNat : Int) < 0) := by
  have h : ∀ n : Fin 256, decide (Lib.indexByte [115, 119, 99, 114, 102] (UInt8.ofNat n.val) < 0) = decide (ptsI ((n.val : Nat) : Int) < 0) := by decide +kernel
  have hc : c.toNat < 256 := c.toNat_lt
  have := h ⟨c.toNat, hc⟩
  simpa using this

theorem l15Points_any (c : Int) (w : World) (h0 : 0 ≤ c) (h1 : c ≤ 255) :
    Calls Try.prog 72 #[.int .u8 c] w fun e w' => e = .returned (.int .i64 (ptsI c)) ∧ w = w' := by
  go_enter Try.func72, Try.ntmps72
  go_wp2
  all_goals (go_ret; exact ⟨ret_int (by simp only [beq_iff_eq, beq_eq_false_iff_ne, ne_eq] at *; unfold ptsI; (repeat' split) <;> omega), rfl⟩)

theorem pointsOf_any (c : Int) (w : World) (h0 : 0 ≤ c) (h1 : c ≤ 255) (hp : 0 ≤ ptsI c) :
    Calls Try.prog 71 #[.int .u8 c] w fun e w' => e = .returned (.int .i64 (ptsI c)) ∧ w = w' := by
  have HP := Lib.hid hp; clear hp
  go_enter Try.func71, Try.ntmps71
  go_wp2
  all_goals (go_ret; exact ⟨ret_int (by have hp := HP.out; simp only [beq_iff_eq, beq_eq_false_iff_ne, ne_eq] at *; unfold ptsI at *; (repeat' split at hp) <;> (repeat' split) <;> omega), rfl⟩)

theorem l15Weather_any (s : ByteArray) (w : World) (hs : s.size ≤ 9223372036854775807) :
    Calls Try.prog 67 #[.string s] w fun e w' => e = .returned (.bool (weatherB s)) ∧ w = w' := by
  go_enter Try.func67, Try.ntmps67
  go_wp2
  go_loop [3] (fun i => ∃ k : Nat, k ≤ s.size ∧ i = .int .i64 k ∧ NoneB (badDay s) k) (fun i => s.size - (intOf i).toNat)
  case atStart => exact ⟨0, Nat.zero_le _, rfl, NoneB.zero _⟩
  case round =>
    obtain ⟨k, hk, rfl, hn⟩ := hrel
    have HN := Lib.hid hn; clear hn
    by_cases hlt : k < s.size
    · have hby : (s[k].toNat : Int) ≤ 255 := by have := s[k].toNat_lt; omega
      have HP := Lib.hid (show badDay s k = decide (ptsI (s[k].toNat : Int) < 0) by rw [badDay, ptAt_lt hlt])
      go_wp2_with fail
      refine (l15Points_any _ _ (by omega) hby).mono ?_; rintro e w' ⟨rfl, rfl⟩
      go_wp2_with fail
      · rename_i hf
        go_ret
        exact ⟨ret_bool (weatherB_bad hlt (by rw [HP.out]; simpa using hf) HN.out).symm, rfl⟩
      · rename_i hf
        go_round
        case rel => exact ⟨k + 1, by omega, by go_num, HN.out.succ (by rw [HP.out]; simpa using hf)⟩
        case measure => simp [intOf]; omega
    · obtain rfl : k = s.size := by omega
      go_wp2
      go_ret
      exact ⟨ret_bool (by rw [weatherB_end HN.out]; simp; omega), rfl⟩

set_option maxRecDepth 100000 in
theorem indexByteL_any (s : ByteArray) (c : Int) (w : World) :
    Calls Try.prog 118 #[.string s, .int .u8 c] w fun e w' => e = .returned (.int .i64 (Lib.indexByte s.data.toList c.toNat.toUInt8)) ∧ w = w' := by
  go_enter Try.func118, Try.ntmps118
  go_wp2
  rw [run_callFunc_extern Try.func122 (by kernel_rfl) (by kernel_rfl) (by kernel_rfl) (e := Extern.BytealgIndexByte.indexByte) (by kernel_rfl), Lib.run_indexByteString]
  simp only [Result.andThen]
  rw [Oper.upon_value]
  go_wp2
  go_ret
  exact ⟨rfl, rfl⟩
theorem indexByte_any (s : ByteArray) (c : Int) (w : World) :
    Calls Try.prog 103 #[.string s, .int .u8 c] w fun e w' => e = .returned (.int .i64 (Lib.indexByte s.data.toList c.toNat.toUInt8)) ∧ w = w' := by
  go_enter Try.func103, Try.ntmps103
  go_wp2_with (go_at_call 118; refine (indexByteL_any _ _ _).mono ?_; rintro e w' ⟨rfl, rfl⟩)
  go_ret
  exact ⟨rfl, rfl⟩

theorem onlyOf_any (s : ByteArray) (w : World) (hs : s.size ≤ 9223372036854775807) :
    Calls Try.prog 86 #[.string s, .string ⟨#[115, 119, 99, 114, 102]⟩] w fun e w' => e = .returned (.bool (decide (firstN (badDay s) s.size = s.size))) ∧ w = w' := by
  go_enter Try.func86, Try.ntmps86
  go_wp2
  go_loop [8] (fun i => ∃ k : Nat, k ≤ s.size ∧ i = .int .i64 k ∧ NoneB (badDay s) k) (fun i => s.size - (intOf i).toNat)
  case atStart => exact ⟨0, Nat.zero_le _, rfl, NoneB.zero _⟩
  case round =>
    obtain ⟨k, hk, rfl, hn⟩ := hrel
    have HN := Lib.hid hn; clear hn
    by_cases hlt : k < s.size
    · have HP := Lib.hid (show badDay s k = decide (Lib.indexByte [115, 119, 99, 114, 102] ((s[k].toNat : Int).toNat.toUInt8) < 0) by rw [badDay, ptAt_lt hlt, byte_back, index_swcrf])
      go_wp2_with fail
      refine (indexByte_any _ _ _).mono ?_; rintro e w' ⟨rfl, rfl⟩
      go_wp2_with fail
      · rename_i hf
        go_ret
        exact ⟨ret_bool (by
          have hb : badDay s k = true := by rw [HP.out]; simpa using hf
          rw [firstN_some hlt hb HN.out]; simp; omega), rfl⟩
      · rename_i hf
        go_round
        case rel => exact ⟨k + 1, by omega, by go_num, HN.out.succ (by rw [HP.out]; simpa using hf)⟩
        case measure => simp [intOf]; omega
    · obtain rfl : k = s.size := by omega
      go_wp2
      go_ret
      exact ⟨ret_bool (by rw [firstN_none HN.out]; simp), rfl⟩

theorem isWeather_any (s : ByteArray) (w : World) (hs : s.size ≤ 9223372036854775807) :
    Calls Try.prog 65 #[.string s] w fun e w' => e = .returned (.bool (weatherB s)) ∧ w = w' := by
  by_cases h : s.size ≤ 60
  · go_enter Try.func65, Try.ntmps65
    go_wp2_with fail
    refine (onlyOf_any _ _ hs).mono ?_; rintro e w' ⟨rfl, rfl⟩
    go_wp2_with fail
    go_ret
    exact ⟨ret_bool (by rw [weatherB]; simp [h]), rfl⟩
  · go_enter Try.func65, Try.ntmps65
    go_wp2_with fail
    go_ret
    exact ⟨ret_bool (by rw [weatherB]; simp [h]), rfl⟩
end Go.Proofs.Ytoghgbbepjpelaa
