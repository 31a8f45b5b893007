/- The contracts of PointsBetween and DryOn, the reference's and the program's. -/
import Derived.Test.YtnibggkjgpgljaaW1
import Derived.Test.YtnibggkjgpgljaaTw
namespace Go.Proofs.Ytnibggkjgpgljaa
open Go.RowKit
set_option linter.unusedVariables false

/-- The points of k days from a day on. -/
def psW (s : ByteArray) (a : Nat) : Nat → Int
  | 0 => 0
  | k + 1 => psW s a k + ptAt s (a + k)
theorem psW_next {s : ByteArray} {a i : Nat} (h : a ≤ i) : psW s a (i + 1 - a) = psW s a (i - a) + ptAt s i := by
  rw [show i + 1 - a = (i - a) + 1 by omega, psW, show a + (i - a) = i by omega]
theorem psW_bound {s : ByteArray} (h : weatherB s = true) (a : Nat) : ∀ k, 0 ≤ psW s a k ∧ psW s a k ≤ 5 * (k : Int) := by
  have hp := (weatherB_parts h).2
  intro k
  induction k with
  | zero => simp [psW]
  | succ k ih =>
    have h1 := hp (a + k)
    have h2 := (ptAt_bound s (a + k)).2
    rw [psW]
    omega
theorem pt_wrap {x p : Int} (h0 : 0 ≤ x) (h1 : x ≤ 300) (h2 : 0 ≤ p) (h3 : p ≤ 5) : wrap64 (x + p) = x + p := IntWalk.wrap64_in _ (by omega)

set_option maxHeartbeats 400000 in
theorem l15Sum_any (s : ByteArray) (a b : Nat) (w : World) (hs : s.size ≤ 9223372036854775807) (hW : weatherB s = true) (hb : b ≤ s.size) (ha : a ≤ 9223372036854775807) :
    Calls Try.prog 70 #[.string s, .int .i64 a, .int .i64 b] w fun e w' => e = .returned (.int .i64 (psW s a (b - a))) ∧ w = w' := by
  obtain ⟨h60, hpt⟩ := weatherB_parts hW
  have HP := Lib.hid hpt; have HW := Lib.hid hW; clear hpt hW
  go_enter Try.func70, Try.ntmps70
  go_wp2
  go_loop [7, 8] (fun u v => ∃ i : Nat, a ≤ i ∧ (i ≤ b ∨ i = a) ∧ v = .int .i64 i ∧ u = .int .i64 (psW s a (i - a))) (fun _ v => b - (intOf v).toNat)
  case atStart => exact ⟨a, Nat.le_refl _, .inr rfl, rfl, by rw [Nat.sub_self]; rfl⟩
  case round =>
    obtain ⟨i, hai, hib, rfl, rfl⟩ := hrel
    by_cases hlt : i < b
    · have hls : i < s.size := by omega
      have hby : (s[i].toNat : Int) ≤ 255 := by have := s[i].toNat_lt; omega
      have S := Lib.hid (psW_next (s := s) hai)
      have Q := Lib.hid (ptAt_lt hls)
      obtain ⟨b0, b1⟩ := psW_bound HW.out a (i - a)
      have b1' : psW s a (i - a) ≤ 300 := by omega
      have p0 := HP.out i
      have p1 := (ptAt_bound s i).2
      rw [Q.out] at p0 p1
      clear hib
      go_wp2_with fail
      refine (l15Points_any _ _ (by omega) hby).mono ?_; rintro e w' ⟨rfl, rfl⟩
      go_wp2_with fail
      go_round
      case rel => exact ⟨i + 1, by omega, .inl (by omega), by go_num, by rw [S.out, Q.out]⟩
      case measure => simp [intOf]; omega
    · go_wp2
      go_ret
      exact ⟨ret_int (by rw [show i - a = b - a by omega]), rfl⟩
set_option maxHeartbeats 400000 in
theorem pointsBetween_any (s : ByteArray) (a b : Nat) (w : World) (hs : s.size ≤ 9223372036854775807) (hW : weatherB s = true) (hb : b ≤ s.size) (ha : a ≤ 9223372036854775807) :
    Calls Try.prog 94 #[.string s, .int .i64 a, .int .i64 b] w fun e w' => e = .returned (.int .i64 (psW s a (b - a))) ∧ w = w' := by
  obtain ⟨h60, hpt⟩ := weatherB_parts hW
  have HP := Lib.hid hpt; have HW := Lib.hid hW; clear hpt hW
  go_enter Try.func94, Try.ntmps94
  go_wp2
  go_loop [7, 8] (fun u v => ∃ i : Nat, a ≤ i ∧ (i ≤ b ∨ i = a) ∧ v = .int .i64 i ∧ u = .int .i64 (psW s a (i - a))) (fun _ v => b - (intOf v).toNat)
  case atStart => exact ⟨a, Nat.le_refl _, .inr rfl, rfl, by rw [Nat.sub_self]; rfl⟩
  case round =>
    obtain ⟨i, hai, hib, rfl, rfl⟩ := hrel
    by_cases hlt : i < b
    · have hls : i < s.size := by omega
      have hby : (s[i].toNat : Int) ≤ 255 := by have := s[i].toNat_lt; omega
      have S := Lib.hid (psW_next (s := s) hai)
      have Q := Lib.hid (ptAt_lt hls)
      obtain ⟨b0, b1⟩ := psW_bound HW.out a (i - a)
      have b1' : psW s a (i - a) ≤ 300 := by omega
      have p0 := HP.out i
      have p1 := (ptAt_bound s i).2
      rw [Q.out] at p0 p1
      clear hib
      go_wp2_with fail
      refine (pointsOf_any _ _ (by omega) hby p0).mono ?_; rintro e w' ⟨rfl, rfl⟩
      go_wp2_with fail
      go_round
      case rel => exact ⟨i + 1, by omega, .inl (by omega), by go_num, by rw [S.out, Q.out]⟩
      case measure => simp [intOf]; omega
    · go_wp2
      go_ret
      exact ⟨ret_int (by rw [show i - a = b - a by omega]), rfl⟩

end Go.Proofs.Ytnibggkjgpgljaa
