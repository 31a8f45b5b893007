/- The contracts of isDry and DryOn, the reference's and the program's. -/
import Derived.Test.YtoghgbbepjpelaaW2
namespace Go.Proofs.Ytoghgbbepjpelaa
open Go.RowKit
set_option linter.unusedVariables false

def dryP (s : ByteArray) (a : Nat) (needs : Int) (k : Nat) : Bool := decide (needs ≤ psW s a k)
def isDryB (s : ByteArray) (a : Nat) (needs : Int) (d : Nat) : Bool := decide (a ≤ d) && dryP s a needs (d - a)

set_option maxHeartbeats 400000 in
theorem isDry_any (s : ByteArray) (a d : Nat) (needs : Int) (w : World) (hs : s.size ≤ 9223372036854775807) (hW : weatherB s = true) (hd : d ≤ s.size) (ha : a ≤ 9223372036854775807) :
    Calls Try.prog 66 #[.string s, .int .i64 a, .int .i64 needs, .int .i64 d] w fun e w' => e = .returned (.bool (isDryB s a needs d)) ∧ w = w' := by
  have HW := Lib.hid hW; clear hW
  by_cases h : a ≤ d
  · have E := Lib.hid (show isDryB s a needs d = decide (needs ≤ psW s a (d - a)) by rw [isDryB, dryP]; simp [h])
    have h' : decide (a ≤ d) = true := by simpa using h
    go_enter Try.func66, Try.ntmps66
    go_wp2_with fail
    refine (pointsBetween_any s a d _ hs HW.out hd ha).mono ?_; rintro e w' ⟨rfl, rfl⟩
    go_wp2_with fail
    go_ret
    exact ⟨ret_bool (by rw [E.out]), rfl⟩
  · have E := Lib.hid (show isDryB s a needs d = false by rw [isDryB]; simp [h])
    have h' : decide (a ≤ d) = false := by simpa using h
    go_enter Try.func66, Try.ntmps66
    go_wp2_with fail
    go_ret
    exact ⟨ret_bool (by rw [E.out]), rfl⟩

def dryK (s : ByteArray) (a : Nat) (needs : Int) : Nat := firstN (dryP s a needs) (s.size + 1 - a)
def dryV (s : ByteArray) (a : Nat) (needs : Int) : Int := if dryK s a needs < s.size + 1 - a then (a : Int) + (dryK s a needs : Int) else -1
def dryF (s : ByteArray) (a needs : Int) : Int × Int :=
  if weatherB s = true then (if (inB a 0 s.size && inB needs 0 1000) = true then (if dryV s a.toNat needs < 0 then (0, 3) else (dryV s a.toNat needs, 0)) else (0, 2)) else (0, 7)
theorem dryV_some {s : ByteArray} {a i : Nat} {needs : Int} (hai : a ≤ i) (hi : i ≤ s.size) (hn : NoneB (dryP s a needs) (i - a)) (h : dryP s a needs (i - a) = true) : dryV s a needs = i := by
  have : dryK s a needs = i - a := firstN_some (by omega) h hn
  rw [dryV, this, if_pos (by omega)]
  omega
theorem dryV_none {s : ByteArray} {a : Nat} {needs : Int} (hn : NoneB (dryP s a needs) (s.size + 1 - a)) : dryV s a needs = -1 := by
  have : dryK s a needs = s.size + 1 - a := firstN_none hn
  rw [dryV, this, if_neg (by omega)]

set_option maxHeartbeats 400000 in
theorem l15Dry_any (s : ByteArray) (a : Nat) (needs : Int) (w : World) (hs : s.size ≤ 9223372036854775807) (hW : weatherB s = true) (ha : a ≤ s.size) :
    Calls Try.prog 68 #[.string s, .int .i64 a, .int .i64 needs] w fun e w' => e = .returned (.int .i64 (dryV s a needs)) ∧ w = w' := by
  have h60 := (weatherB_parts hW).1
  have HW := Lib.hid hW; clear hW
  go_enter Try.func68, Try.ntmps68
  go_wp2
  go_loop [7] (fun v => ∃ i : Nat, a ≤ i ∧ i ≤ s.size + 1 ∧ v = .int .i64 i ∧ NoneB (dryP s a needs) (i - a)) (fun v => s.size + 1 - (intOf v).toNat)
  case atStart => exact ⟨a, Nat.le_refl _, by omega, rfl, by rw [Nat.sub_self]; exact NoneB.zero _⟩
  case round =>
    obtain ⟨i, hai, his, rfl, hn⟩ := hrel
    have HN := Lib.hid hn; clear hn
    by_cases hlt : i ≤ s.size
    · have HP := Lib.hid (show dryP s a needs (i - a) = decide (needs ≤ psW s a (i - a)) from rfl)
      go_wp2_with fail
      refine (l15Sum_any s a i _ hs HW.out hlt (by omega)).mono ?_; rintro e w' ⟨rfl, rfl⟩
      go_wp2_with fail
      · rename_i hf
        go_ret
        exact ⟨ret_int (dryV_some hai hlt HN.out (by rw [HP.out]; simpa using hf)).symm, rfl⟩
      · rename_i hf
        go_round
        case rel => exact ⟨i + 1, by omega, by omega, by go_num, by rw [show i + 1 - a = (i - a) + 1 by omega]; exact HN.out.succ (by rw [HP.out]; simpa using hf)⟩
        case measure => simp [intOf]; omega
    · go_wp2
      go_ret
      exact ⟨ret_int (dryV_none (by rw [show s.size + 1 - a = i - a by omega]; exact HN.out)).symm, rfl⟩

set_option maxHeartbeats 400000 in
theorem specDryOn_any (s : ByteArray) (a b : Int) (w : World) (hs : s.size ≤ 9223372036854775807) :
    Calls Try.prog 31 #[.string s, .int .i64 a, .int .i64 b] w (Two (dryF s a b) w) := by
  rcases Bool.eq_false_or_eq_true (weatherB s) with g | g
  · rcases Bool.eq_false_or_eq_true (inB a 0 s.size) with g1 | g1
    · rcases Bool.eq_false_or_eq_true (inB b 0 1000) with g2 | g2
      · have q1 := inB_true.1 g1
        obtain ⟨x, rfl⟩ := Int.eq_ofNat_of_zero_le (show 0 ≤ a by omega)
        have E0 : dryF s x b = if dryV s x b < 0 then (0, 3) else (dryV s x b, 0) := by rw [dryF, if_pos g, if_pos (by rw [g1, g2]; rfl)]; rfl
        have E := Lib.hid E0; clear E0
        have G := Lib.hid g; have G1 := Lib.hid g1; have G2 := Lib.hid g2; clear g g1 g2
        by_cases hv : dryV s x b < 0
        · go_enter Try.func31, Try.ntmps31
          go_wp2_with fail
          refine (asB (l15Weather_any s _ hs) G.out).mono ?_; rintro e w' ⟨rfl, rfl⟩
          go_wp2_with fail
          refine (asB (in_any _ _ _ _) G1.out).mono ?_; rintro e w' ⟨rfl, rfl⟩
          go_wp2_with fail
          refine (asB (in_any _ _ _ _) G2.out).mono ?_; rintro e w' ⟨rfl, rfl⟩
          go_wp2_with fail
          refine (l15Dry_any s x b _ hs G.out (by omega)).mono ?_; rintro e w' ⟨rfl, rfl⟩
          go_wp2_with fail
          go_ret2
          exact Two.mk (by rw [E.out, if_pos hv]) (Below.refl _ _)
        · go_enter Try.func31, Try.ntmps31
          go_wp2_with fail
          refine (asB (l15Weather_any s _ hs) G.out).mono ?_; rintro e w' ⟨rfl, rfl⟩
          go_wp2_with fail
          refine (asB (in_any _ _ _ _) G1.out).mono ?_; rintro e w' ⟨rfl, rfl⟩
          go_wp2_with fail
          refine (asB (in_any _ _ _ _) G2.out).mono ?_; rintro e w' ⟨rfl, rfl⟩
          go_wp2_with fail
          refine (l15Dry_any s x b _ hs G.out (by omega)).mono ?_; rintro e w' ⟨rfl, rfl⟩
          go_wp2_with fail
          go_ret2
          exact Two.mk (by rw [E.out, if_neg (by omega)]) (Below.refl _ _)
      · have E := Lib.hid (show dryF s a b = (0, 2) by rw [dryF, if_pos g, g1, g2]; rfl)
        have G := Lib.hid g; have G1 := Lib.hid g1; have G2 := Lib.hid g2; clear g g1 g2
        go_enter Try.func31, Try.ntmps31
        go_wp2_with fail
        refine (asB (l15Weather_any s _ hs) G.out).mono ?_; rintro e w' ⟨rfl, rfl⟩
        go_wp2_with fail
        refine (asB (in_any _ _ _ _) G1.out).mono ?_; rintro e w' ⟨rfl, rfl⟩
        go_wp2_with fail
        refine (asB (in_any _ _ _ _) G2.out).mono ?_; rintro e w' ⟨rfl, rfl⟩
        go_wp2_with fail
        go_ret2
        exact Two.mk E.out (Below.refl _ _)
    · have E := Lib.hid (show dryF s a b = (0, 2) by rw [dryF, if_pos g, g1]; rfl)
      have G := Lib.hid g; have G1 := Lib.hid g1; clear g g1
      go_enter Try.func31, Try.ntmps31
      go_wp2_with fail
      refine (asB (l15Weather_any s _ hs) G.out).mono ?_; rintro e w' ⟨rfl, rfl⟩
      go_wp2_with fail
      refine (asB (in_any _ _ _ _) G1.out).mono ?_; rintro e w' ⟨rfl, rfl⟩
      go_wp2_with fail
      go_ret2
      exact Two.mk E.out (Below.refl _ _)
  · have E := Lib.hid (show dryF s a b = (0, 7) by rw [dryF, g]; rfl)
    have G := Lib.hid g; clear g
    go_enter Try.func31, Try.ntmps31
    go_wp2_with fail
    refine (asB (l15Weather_any s _ hs) G.out).mono ?_; rintro e w' ⟨rfl, rfl⟩
    go_wp2_with fail
    go_ret2
    exact Two.mk E.out (Below.refl _ _)

set_option maxHeartbeats 400000 in
theorem implDryOn_any (s : ByteArray) (a b : Int) (w : World) (hs : s.size ≤ 9223372036854775807) :
    Calls Try.prog 30 #[.string s, .int .i64 a, .int .i64 b] w (Two (dryF s a b) w) := by
  rcases Bool.eq_false_or_eq_true (weatherB s) with g | g
  · rcases Bool.eq_false_or_eq_true (inB a 0 s.size) with g1 | g1
    · rcases Bool.eq_false_or_eq_true (inB b 0 1000) with g2 | g2
      · have q1 := inB_true.1 g1
        have h60 := (weatherB_parts g).1
        obtain ⟨x, rfl⟩ := Int.eq_ofNat_of_zero_le (show 0 ≤ a by omega)
        have hxs : x ≤ s.size := by omega
        have E0 : dryF s x b = if dryV s x b < 0 then (0, 3) else (dryV s x b, 0) := by rw [dryF, if_pos g, if_pos (by rw [g1, g2]; rfl)]; rfl
        have E := Lib.hid E0; clear E0
        have G := Lib.hid g; have G1 := Lib.hid g1; have G2 := Lib.hid g2; clear g g1 g2 q1
        go_enter Try.func30, Try.ntmps30
        go_wp2_with fail
        refine (asB (isWeather_any s _ hs) G.out).mono ?_; rintro e w' ⟨rfl, rfl⟩
        go_wp2_with fail
        refine (asB (within_any _ _ _ _) G1.out).mono ?_; rintro e w' ⟨rfl, rfl⟩
        go_wp2_with fail
        refine (asB (within_any _ _ _ _) G2.out).mono ?_; rintro e w' ⟨rfl, rfl⟩
        go_wp2_with fail
        go_loop [9] (fun v => ∃ i : Nat, x ≤ i ∧ i ≤ s.size + 1 ∧ v = .int .i64 i ∧ NoneB (dryP s x b) (i - x)) (fun v => s.size + 1 - (intOf v).toNat)
        case atStart => exact ⟨x, Nat.le_refl _, by omega, rfl, by rw [Nat.sub_self]; exact NoneB.zero _⟩
        case round =>
          obtain ⟨i, hai, his, rfl, hn⟩ := hrel
          have HN := Lib.hid hn; clear hn
          by_cases hlt : i ≤ s.size
          · have HP := Lib.hid (show isDryB s x b i = dryP s x b (i - x) by rw [isDryB]; simp [hai])
            go_wp2_with fail
            refine (isDry_any s x i b _ hs G.out hlt (by omega)).mono ?_; rintro e w' ⟨rfl, rfl⟩
            go_wp2_with fail
            · rename_i hf
              have V := Lib.hid (dryV_some hai hlt HN.out (by rw [← HP.out]; simpa using hf))
              go_ret2
              exact Two.mk (by rw [E.out, V.out, if_neg (by omega)]) (Below.refl _ _)
            · rename_i hf
              go_round
              case rel => exact ⟨i + 1, by omega, by omega, by go_num, by rw [show i + 1 - x = (i - x) + 1 by omega]; exact HN.out.succ (by rw [← HP.out]; simpa using hf)⟩
              case measure => simp [intOf]; omega
          · have V := Lib.hid (dryV_none (s := s) (a := x) (needs := b) (by rw [show s.size + 1 - x = i - x by omega]; exact HN.out))
            go_wp2
            go_ret2
            exact Two.mk (by rw [E.out, V.out, if_pos (by omega)]) (Below.refl _ _)
      · have E := Lib.hid (show dryF s a b = (0, 2) by rw [dryF, if_pos g, g1, g2]; rfl)
        have G := Lib.hid g; have G1 := Lib.hid g1; have G2 := Lib.hid g2; clear g g1 g2
        go_enter Try.func30, Try.ntmps30
        go_wp2_with fail
        refine (asB (isWeather_any s _ hs) G.out).mono ?_; rintro e w' ⟨rfl, rfl⟩
        go_wp2_with fail
        refine (asB (within_any _ _ _ _) G1.out).mono ?_; rintro e w' ⟨rfl, rfl⟩
        go_wp2_with fail
        refine (asB (within_any _ _ _ _) G2.out).mono ?_; rintro e w' ⟨rfl, rfl⟩
        go_wp2_with fail
        go_ret2
        exact Two.mk E.out (Below.refl _ _)
    · have E := Lib.hid (show dryF s a b = (0, 2) by rw [dryF, if_pos g, g1]; rfl)
      have G := Lib.hid g; have G1 := Lib.hid g1; clear g g1
      go_enter Try.func30, Try.ntmps30
      go_wp2_with fail
      refine (asB (isWeather_any s _ hs) G.out).mono ?_; rintro e w' ⟨rfl, rfl⟩
      go_wp2_with fail
      refine (asB (within_any _ _ _ _) G1.out).mono ?_; rintro e w' ⟨rfl, rfl⟩
      go_wp2_with fail
      go_ret2
      exact Two.mk E.out (Below.refl _ _)
  · have E := Lib.hid (show dryF s a b = (0, 7) by rw [dryF, g]; rfl)
    have G := Lib.hid g; clear g
    go_enter Try.func30, Try.ntmps30
    go_wp2_with fail
    refine (asB (isWeather_any s _ hs) G.out).mono ?_; rintro e w' ⟨rfl, rfl⟩
    go_wp2_with fail
    go_ret2
    exact Two.mk E.out (Below.refl _ _)
end Go.Proofs.Ytoghgbbepjpelaa
