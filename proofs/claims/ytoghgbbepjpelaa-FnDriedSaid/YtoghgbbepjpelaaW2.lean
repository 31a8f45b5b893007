/- The contracts of PointsBetween and DryOn, the reference's and the program's. -/
import Derived.Test.YtoghgbbepjpelaaW1
import Derived.Test.YtoghgbbepjpelaaTw
namespace Go.Proofs.Ytoghgbbepjpelaa
open Go.RowKit
set_option linter.unusedVariables false

/-- The points of k days from a day on. -/
def psW (s : ByteArray) (a : Nat) : Nat → Int
  | 0 => 0
  | k + 1 => psW s a k + ptAt s (a + k)
theorem psW_next {s : ByteArray} {a i : Nat} (h : a ≤ i) : psW s a (i + 1 - a) = psW s a (i - a) + ptAt s i := by
  rw [show i + 1 - a = (i - a) + 1 by omega, psW, show a + (i - a) = i by omega]
theorem psW_bound {s : ByteArray} (h : weatherB s = true) (a : Nat) : ∀ k, 0 ≤ psW s a k ∧ psW s a k ≤ 5 * (k : Int) := by
  have hp := (weatherB_parts h).2
  intro k
  induction k with
  | zero => simp [psW]
  | succ k ih =>
    have h1 := hp (a + k)
    have h2 := (ptAt_bound s (a + k)).2
    rw [psW]
    omega
theorem pt_wrap {x p : Int} (h0 : 0 ≤ x) (h1 : x ≤ 300) (h2 : 0 ≤ p) (h3 : p ≤ 5) : wrap64 (x + p) = x + p := IntWalk.wrap64_in _ (by omega)

set_option maxHeartbeats 400000 in
theorem l15Sum_any (s : ByteArray) (a b : Nat) (w : World) (hs : s.size ≤ 9223372036854775807) (hW : weatherB s = true) (hb : b ≤ s.size) (ha : a ≤ 9223372036854775807) :
    Calls Try.prog 70 #[.string s, .int .i64 a, .int .i64 b] w fun e w' => e = .returned (.int .i64 (psW s a (b - a))) ∧ w = w' := by
  obtain ⟨h60, hpt⟩ := weatherB_parts hW
  have HP := Lib.hid hpt; have HW := Lib.hid hW; clear hpt hW
  go_enter Try.func70, Try.ntmps70
  go_wp2
  go_loop [7, 8] (fun u v => ∃ i : Nat, a ≤ i ∧ (i ≤ b ∨ i = a) ∧ v = .int .i64 i ∧ u = .int .i64 (psW s a (i - a))) (fun _ v => b - (intOf v).toNat)
  case atStart => exact ⟨a, Nat.le_refl _, .inr rfl, rfl, by rw [Nat.sub_self]; rfl⟩
  case round =>
    obtain ⟨i, hai, hib, rfl, rfl⟩ := hrel
    by_cases hlt : i < b
    · have hls : i < s.size := by omega
      have hby : (s[i].toNat : Int) ≤ 255 := by have := s[i].toNat_lt; omega
      have S := Lib.hid (psW_next (s := s) hai)
      have Q := Lib.hid (ptAt_lt hls)
      obtain ⟨b0, b1⟩ := psW_bound HW.out a (i - a)
      have b1' : psW s a (i - a) ≤ 300 := by omega
      have p0 := HP.out i
      have p1 := (ptAt_bound s i).2
      rw [Q.out] at p0 p1
      clear hib
      go_wp2_with fail
      refine (l15Points_any _ _ (by omega) hby).mono ?_; rintro e w' ⟨rfl, rfl⟩
      go_wp2_with fail
      go_round
      case rel => exact ⟨i + 1, by omega, .inl (by omega), by go_num, by rw [S.out, Q.out]⟩
      case measure => simp [intOf]; omega
    · go_wp2
      go_ret
      exact ⟨ret_int (by rw [show i - a = b - a by omega]), rfl⟩
set_option maxHeartbeats 400000 in
theorem pointsBetween_any (s : ByteArray) (a b : Nat) (w : World) (hs : s.size ≤ 9223372036854775807) (hW : weatherB s = true) (hb : b ≤ s.size) (ha : a ≤ 9223372036854775807) :
    Calls Try.prog 69 #[.string s, .int .i64 a, .int .i64 b] w fun e w' => e = .returned (.int .i64 (psW s a (b - a))) ∧ w = w' := by
  obtain ⟨h60, hpt⟩ := weatherB_parts hW
  have HP := Lib.hid hpt; have HW := Lib.hid hW; clear hpt hW
  go_enter Try.func69, Try.ntmps69
  go_wp2
  go_loop [7, 8] (fun u v => ∃ i : Nat, a ≤ i ∧ (i ≤ b ∨ i = a) ∧ v = .int .i64 i ∧ u = .int .i64 (psW s a (i - a))) (fun _ v => b - (intOf v).toNat)
  case atStart => exact ⟨a, Nat.le_refl _, .inr rfl, rfl, by rw [Nat.sub_self]; rfl⟩
  case round =>
    obtain ⟨i, hai, hib, rfl, rfl⟩ := hrel
    by_cases hlt : i < b
    · have hls : i < s.size := by omega
      have hby : (s[i].toNat : Int) ≤ 255 := by have := s[i].toNat_lt; omega
      have S := Lib.hid (psW_next (s := s) hai)
      have Q := Lib.hid (ptAt_lt hls)
      obtain ⟨b0, b1⟩ := psW_bound HW.out a (i - a)
      have b1' : psW s a (i - a) ≤ 300 := by omega
      have p0 := HP.out i
      have p1 := (ptAt_bound s i).2
      rw [Q.out] at p0 p1
      clear hib
      go_wp2_with fail
      refine (pointsOf_any _ _ (by omega) hby p0).mono ?_; rintro e w' ⟨rfl, rfl⟩
      go_wp2_with fail
      go_round
      case rel => exact ⟨i + 1, by omega, .inl (by omega), by go_num, by rw [S.out, Q.out]⟩
      case measure => simp [intOf]; omega
    · go_wp2
      go_ret
      exact ⟨ret_int (by rw [show i - a = b - a by omega]), rfl⟩

def pbF (s : ByteArray) (a b : Int) : Int × Int :=
  if weatherB s = true then (if (inB a 0 s.size && inB b a s.size) = true then (psW s a.toNat (b.toNat - a.toNat), 0) else (0, 2)) else (0, 7)

set_option maxHeartbeats 400000 in
theorem specPointsBetween_any (s : ByteArray) (a b : Int) (w : World) (hs : s.size ≤ 9223372036854775807) :
    Calls Try.prog 34 #[.string s, .int .i64 a, .int .i64 b] w (Two (pbF s a b) w) := by
  rcases Bool.eq_false_or_eq_true (weatherB s) with g | g
  · rcases Bool.eq_false_or_eq_true (inB a 0 s.size) with g1 | g1
    · rcases Bool.eq_false_or_eq_true (inB b a s.size) with g2 | g2
      · have E := Lib.hid (show pbF s a b = (psW s a.toNat (b.toNat - a.toNat), 0) by rw [pbF, if_pos g, g1, g2]; rfl)
        have q1 := inB_true.1 g1
        have q2 := inB_true.1 g2
        have G := Lib.hid g; have G1 := Lib.hid g1; have G2 := Lib.hid g2; clear g g1 g2
        obtain ⟨x, rfl⟩ := Int.eq_ofNat_of_zero_le (show 0 ≤ a by omega)
        obtain ⟨y, rfl⟩ := Int.eq_ofNat_of_zero_le (show 0 ≤ b by omega)
        go_enter Try.func34, Try.ntmps34
        go_wp2_with fail
        refine (asB (l15Weather_any s _ hs) G.out).mono ?_; rintro e w' ⟨rfl, rfl⟩
        go_wp2_with fail
        refine (asB (in_any _ _ _ _) G1.out).mono ?_; rintro e w' ⟨rfl, rfl⟩
        go_wp2_with fail
        refine (asB (in_any _ _ _ _) G2.out).mono ?_; rintro e w' ⟨rfl, rfl⟩
        go_wp2_with fail
        refine (l15Sum_any s x y _ hs G.out (by omega) (by omega)).mono ?_; rintro e w' ⟨rfl, rfl⟩
        go_wp2_with fail
        go_ret2
        exact Two.mk E.out (Below.refl _ _)
      · have E := Lib.hid (show pbF s a b = (0, 2) by rw [pbF, if_pos g, g1, g2]; rfl)
        have G := Lib.hid g; have G1 := Lib.hid g1; have G2 := Lib.hid g2; clear g g1 g2
        go_enter Try.func34, Try.ntmps34
        go_wp2_with fail
        refine (asB (l15Weather_any s _ hs) G.out).mono ?_; rintro e w' ⟨rfl, rfl⟩
        go_wp2_with fail
        refine (asB (in_any _ _ _ _) G1.out).mono ?_; rintro e w' ⟨rfl, rfl⟩
        go_wp2_with fail
        refine (asB (in_any _ _ _ _) G2.out).mono ?_; rintro e w' ⟨rfl, rfl⟩
        go_wp2_with fail
        go_ret2
        exact Two.mk E.out (Below.refl _ _)
    · have E := Lib.hid (show pbF s a b = (0, 2) by rw [pbF, if_pos g, g1]; rfl)
      have G := Lib.hid g; have G1 := Lib.hid g1; clear g g1
      go_enter Try.func34, Try.ntmps34
      go_wp2_with fail
      refine (asB (l15Weather_any s _ hs) G.out).mono ?_; rintro e w' ⟨rfl, rfl⟩
      go_wp2_with fail
      refine (asB (in_any _ _ _ _) G1.out).mono ?_; rintro e w' ⟨rfl, rfl⟩
      go_wp2_with fail
      go_ret2
      exact Two.mk E.out (Below.refl _ _)
  · have E := Lib.hid (show pbF s a b = (0, 7) by rw [pbF, g]; rfl)
    have G := Lib.hid g; clear g
    go_enter Try.func34, Try.ntmps34
    go_wp2_with fail
    refine (asB (l15Weather_any s _ hs) G.out).mono ?_; rintro e w' ⟨rfl, rfl⟩
    go_wp2_with fail
    go_ret2
    exact Two.mk E.out (Below.refl _ _)

set_option maxHeartbeats 400000 in
theorem implPointsBetween_any (s : ByteArray) (a b : Int) (w : World) (hs : s.size ≤ 9223372036854775807) :
    Calls Try.prog 33 #[.string s, .int .i64 a, .int .i64 b] w (Two (pbF s a b) w) := by
  rcases Bool.eq_false_or_eq_true (weatherB s) with g | g
  · rcases Bool.eq_false_or_eq_true (inB a 0 b) with g1 | g1
    · have q1 := inB_true.1 g1
      by_cases h2 : b ≤ s.size
      · have E := Lib.hid (show pbF s a b = (psW s a.toNat (b.toNat - a.toNat), 0) by rw [pbF, if_pos g, if_pos (by simp only [Bool.and_eq_true, inB_true]; omega)])
        have G := Lib.hid g; have G1 := Lib.hid g1; clear g g1
        obtain ⟨x, rfl⟩ := Int.eq_ofNat_of_zero_le (show 0 ≤ a by omega)
        obtain ⟨y, rfl⟩ := Int.eq_ofNat_of_zero_le (show 0 ≤ b by omega)
        go_enter Try.func33, Try.ntmps33
        go_wp2_with fail
        refine (asB (isWeather_any s _ hs) G.out).mono ?_; rintro e w' ⟨rfl, rfl⟩
        go_wp2_with fail
        refine (asB (within_any _ _ _ _) G1.out).mono ?_; rintro e w' ⟨rfl, rfl⟩
        go_wp2_with fail
        refine (pointsBetween_any s x y _ hs G.out (by omega) (by omega)).mono ?_; rintro e w' ⟨rfl, rfl⟩
        go_wp2_with fail
        go_ret2
        exact Two.mk E.out (Below.refl _ _)
      · have E := Lib.hid (show pbF s a b = (0, 2) by rw [pbF, if_pos g, if_neg (by simp only [Bool.and_eq_true, inB_true]; omega)])
        have G := Lib.hid g; have G1 := Lib.hid g1; clear g g1
        go_enter Try.func33, Try.ntmps33
        go_wp2_with fail
        refine (asB (isWeather_any s _ hs) G.out).mono ?_; rintro e w' ⟨rfl, rfl⟩
        go_wp2_with fail
        refine (asB (within_any _ _ _ _) G1.out).mono ?_; rintro e w' ⟨rfl, rfl⟩
        go_wp2_with fail
        go_ret2
        exact Two.mk E.out (Below.refl _ _)
    · have q1 := inB_false.1 g1
      have E := Lib.hid (show pbF s a b = (0, 2) by rw [pbF, if_pos g, if_neg (by simp only [Bool.and_eq_true, inB_true]; omega)])
      have G := Lib.hid g; have G1 := Lib.hid g1; clear g g1 q1
      go_enter Try.func33, Try.ntmps33
      go_wp2_with fail
      refine (asB (isWeather_any s _ hs) G.out).mono ?_; rintro e w' ⟨rfl, rfl⟩
      go_wp2_with fail
      refine (asB (within_any _ _ _ _) G1.out).mono ?_; rintro e w' ⟨rfl, rfl⟩
      go_wp2_with fail
      go_ret2
      exact Two.mk E.out (Below.refl _ _)
  · have E := Lib.hid (show pbF s a b = (0, 7) by rw [pbF, g]; rfl)
    have G := Lib.hid g; clear g
    go_enter Try.func33, Try.ntmps33
    go_wp2_with fail
    refine (asB (isWeather_any s _ hs) G.out).mono ?_; rintro e w' ⟨rfl, rfl⟩
    go_wp2_with fail
    go_ret2
    exact Two.mk E.out (Below.refl _ _)
end Go.Proofs.Ytoghgbbepjpelaa
