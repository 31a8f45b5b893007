/- The contracts of the draws that the laws on drying read: weather with two numbers, racks with weather. -/
import Derived.Test.YtoghgbbepjpelaaRD4
import Derived.Test.YtoghgbbepjpelaaBp
namespace Go.Proofs.Ytoghgbbepjpelaa
open Go.RowKit
set_option linter.unusedVariables false

/-- Drawn racks and drawn weather. -/
def SomeD (p : Nat) (m : Int) (w : World) (e : Ending) (w' : World) : Prop := ∃ A n c xs, ∃ s : ByteArray, e = .returned (.tuple #[.slice A n c, .string s]) ∧ RackS w' A n xs ∧ n ≤ 25 ∧ s.size ≤ 61 ∧ Src w' p m ∧ Drew p w w' ∧ ∀ b off, A = some ⟨b, off, none⟩ → w.heap.size ≤ b
set_option maxHeartbeats 2000000 in
theorem l15Some_any (p : Nat) (m : Int) (w : World) (h : Src w p m) (hm0 : 0 ≤ m) (hm : m ≤ 100) :
    Calls Try.prog 73 #[.pointer (some ⟨p, 0, none⟩)] w (SomeD p (m + 900) w) := by
  have hp := h.lt
  go_enter Try.func73, Try.ntmps73
  go_wp2_with fail
  refine (bent_any p m _ h hm0 (by omega)).mono ?_; rintro e w1 ⟨A, n, c, xs, rfl, hX, hn, hS1, hD1, hA⟩
  have HX := Lib.hid hX; have HS1 := Lib.hid hS1; have HD1 := Lib.hid hD1; have HA := Lib.hid hA
  clear hX hS1 hD1 hA
  go_wp2_with fail
  refine (weather_any p _ _ HS1.out (by omega) (by omega)).mono ?_; rintro e w2 ⟨s, rfl, hs, hS2, hD2⟩
  have HX2 := Lib.hid (HX.out.grown hD2 (fun b off e => by have := HA.out b off e; omega))
  have HS2 := Lib.hid hS2; have HD2 := Lib.hid (HD1.out.trans hD2)
  clear hS2 hD2
  go_wp2_with fail
  go_ret2
  exact ⟨A, n, c, xs, s, rfl, HX2.out, hn, hs, HS2.out.mono (by omega), HD2.out, HA.out⟩

/-- Weather and two numbers. -/
def TextNN (w : World) (e : Ending) (w' : World) : Prop := ∃ (s : ByteArray) (a b : Int), e = .returned (.tuple #[.string s, .int .i64 a, .int .i64 b]) ∧ s.size ≤ 61 ∧ Below w.heap.size w w'
set_option maxHeartbeats 2000000 in
theorem drawDryOn_any (A : Option Addr) (n c : Nat) (w : World) (h : Bys w A n) :
    Calls Try.prog 29 #[.slice A n c] w (TextNN w) := by
  have HB := Lib.hid h; clear h
  go_enter Try.func29, Try.ntmps29
  go_wp2_with fail
  refine (from_any A n c _ HB.out).mono ?_; rintro e w1 ⟨p, rfl, hp, hS, hb1⟩
  have hpl := hS.lt
  have HS := Lib.hid hS; clear hS
  go_wp2_with fail
  refine (weather_any p 0 _ HS.out (by omega) (by omega)).mono ?_; rintro e w2 ⟨s, rfl, hs, hS2, hD2⟩
  have HS2 := Lib.hid hS2; have HD2 := Lib.hid (hD2.below hb1 hb1.size hp)
  have hz2 := Nat.le_trans hb1.size hD2.size
  clear hS2 hD2
  go_wp2_with fail
  refine (pick_any p _ _ _ HS2.out (by omega)).mono ?_; rintro e w3 ⟨y, rfl, ⟨hy0, hy1⟩, hS3, hD3⟩
  have HS3 := Lib.hid hS3; have HD3 := Lib.hid (hD3.below HD2.out hz2 hp)
  have hz3 := Nat.le_trans hz2 hD3.size
  clear hS3 hD3 hy1
  go_wp2_with fail
  refine (one_any p 10 _ _ HS3.out (by omega)).mono ?_; rintro e w4 ⟨t, rfl, hS4, hD4⟩
  have HS4 := Lib.hid hS4; have HD4 := Lib.hid (hD4.below HD3.out hz3 hp)
  have hz4 := Nat.le_trans hz3 hD4.size
  clear hS4 hD4
  cases t with
  | true =>
    go_wp2_with fail
    refine (among_lit p _ _ [-1, 0, 1000, 1001] 2 HS4.out (by omega) (by simp) (by simp)).mono ?_; rintro e w5 ⟨x, rfl, _, hS5, hD5⟩
    have HD5 := Lib.hid (hD5.below HD4.out hz4 hp)
    clear hS5 hD5
    go_wp2_with fail
    go_ret3
    exact ⟨s, y, x, rfl, hs, HD5.out⟩
  | false =>
    go_wp2_with fail
    refine (pick_any p 50 _ _ HS4.out (by omega)).mono ?_; rintro e w5 ⟨x, rfl, ⟨hx0, hx1⟩, hS5, hD5⟩
    have HD5 := Lib.hid (hD5.below HD4.out hz4 hp)
    clear hS5 hD5 hx1
    go_wp2_with fail
    go_ret3
    exact ⟨s, y, x, rfl, hs, HD5.out⟩
set_option maxHeartbeats 4000000 in
theorem drawPointsBetween_any (A : Option Addr) (n c : Nat) (w : World) (h : Bys w A n) :
    Calls Try.prog 32 #[.slice A n c] w (TextNN w) := by
  have HB := Lib.hid h; clear h
  go_enter Try.func32, Try.ntmps32
  go_wp2_with fail
  refine (from_any A n c _ HB.out).mono ?_; rintro e w1 ⟨p, rfl, hp, hS, hb1⟩
  have hpl := hS.lt
  have HS := Lib.hid hS; clear hS
  go_wp2_with fail
  refine (weather_any p 0 _ HS.out (by omega) (by omega)).mono ?_; rintro e w2 ⟨s, rfl, hs, hS2, hD2⟩
  have HS2 := Lib.hid hS2; have HD2 := Lib.hid (hD2.below hb1 hb1.size hp)
  have hz2 := Nat.le_trans hb1.size hD2.size
  clear hS2 hD2
  go_wp2_with fail
  refine (pick_any p _ _ _ HS2.out (by omega)).mono ?_; rintro e w3 ⟨y, rfl, ⟨hy0, hy1⟩, hS3, hD3⟩
  have HS3 := Lib.hid hS3; have HD3 := Lib.hid (hD3.below HD2.out hz2 hp)
  have hz3 := Nat.le_trans hz2 hD3.size
  clear hS3 hD3 hy1
  go_wp2_with fail
  refine (one_any p 10 _ _ HS3.out (by omega)).mono ?_; rintro e w4 ⟨t, rfl, hS4, hD4⟩
  have HS4 := Lib.hid hS4; have HD4 := Lib.hid (hD4.below HD3.out hz3 hp)
  have hz4 := Nat.le_trans hz3 hD4.size
  clear hS4 hD4 HS3 HD3 HS2 HD2
  go_upto_if 18 with fail
  go_cut [7] (fun v wx => ∃ f : Int, v = .int .i64 f ∧ Src wx p 208 ∧ Below w.heap.size w wx)
  case first =>
    cases t with
    | true =>
      go_wp2_with fail
      refine (among_lit p _ _ [-1, 0, (s.size : Int) + 1] 2 HS4.out (by omega) (by simp) (by simp)).mono ?_; rintro e w5 ⟨x, rfl, _, hS5, hD5⟩
      have HS5 := Lib.hid hS5
      have HD5 := Lib.hid (hD5.below HD4.out hz4 hp)
      clear hS5 hD5
      go_wp2_with fail
      go_meet
      exact ⟨x, rfl, HS5.out.mono (by omega), HD5.out⟩
    | false =>
      go_wp2_with fail
      go_meet
      exact ⟨y, rfl, HS4.out.mono (by omega), HD4.out⟩
  case rest =>
    obtain ⟨f, rfl, hS5, hB5⟩ := hcut
    obtain ⟨w5, rfl⟩ : ∃ u : World, u = wc := ⟨_, rfl⟩
    have HS5 := Lib.hid hS5; have HB5 := Lib.hid hB5
    have hz5 := hB5.size
    clear hS5 hB5 HS4 HD4
    go_wp2_with fail
    refine (one_any p 8 _ _ HS5.out (by omega)).mono ?_; rintro e w6 ⟨t, rfl, hS6, hD6⟩
    have HS6 := Lib.hid hS6; have HB6 := Lib.hid (hD6.below HB5.out hz5 hp)
    have hz6 := Nat.le_trans hz5 hD6.size
    clear hS6 hD6
    cases t with
    | true =>
      go_wp2_with fail
      refine (among_lit p _ _ [-1, (s.size : Int), (s.size : Int) + 1] 2 HS6.out (by omega) (by simp) (by simp)).mono ?_; rintro e w7 ⟨x, rfl, _, hS7, hD7⟩
      have HB7 := Lib.hid (hD7.below HB6.out hz6 hp)
      clear hS7 hD7
      go_wp2_with fail
      go_ret3
      exact ⟨s, f, x, rfl, hs, HB7.out⟩
    | false =>
      go_wp2_with fail
      refine (pick_any p 12 _ _ HS6.out (by omega)).mono ?_; rintro e w7 ⟨x, rfl, ⟨hx0, hx1⟩, hS7, hD7⟩
      have HB7 := Lib.hid (hD7.below HB6.out hz6 hp)
      clear hS7 hD7 hx1
      go_wp2_with fail
      go_ret3
      exact ⟨s, f, _, rfl, hs, HB7.out⟩
/-- Racks, weather and a day. -/
def RacksTextN (w : World) (e : Ending) (w' : World) : Prop := ∃ A n c xs, ∃ (s : ByteArray) (d : Int), e = .returned (.tuple #[.slice A n c, .string s, .int .i64 d]) ∧ RackS w' A n xs ∧ n ≤ 25 ∧ s.size ≤ 61 ∧ Below w.heap.size w w'
set_option maxHeartbeats 4000000 in
theorem drawReadyRacks_any (A : Option Addr) (n c : Nat) (w : World) (h : Bys w A n) :
    Calls Try.prog 37 #[.slice A n c] w (RacksTextN w) := by
  have HB := Lib.hid h; clear h
  go_enter Try.func37, Try.ntmps37
  go_wp2_with fail
  refine (from_any A n c _ HB.out).mono ?_; rintro e w1 ⟨p, rfl, hp, hS, hb1⟩
  have hpl := hS.lt
  have HS := Lib.hid hS; clear hS
  go_wp2_with fail
  refine (l15Some_any p 0 _ HS.out (by omega) (by omega)).mono ?_; rintro e w2 ⟨A2, n2, c2, xs, s, rfl, hX, hn2, hs, hS2, hD2, hA⟩
  have HA := Lib.hid (fun b off e => Nat.lt_of_lt_of_le hpl (hA b off e))
  have HX2 := Lib.hid hX
  have HS2 := Lib.hid hS2; have HD2 := Lib.hid (hD2.below hb1 hb1.size hp)
  have hz2 := Nat.le_trans hb1.size hD2.size
  clear hS2 hD2 hX hA
  go_wp2_with fail
  refine (one_any p 10 _ _ HS2.out (by omega)).mono ?_; rintro e w3 ⟨t, rfl, hS3, hD3⟩
  have HX3 := Lib.hid (HX2.out.grown hD3 HA.out)
  have HS3 := Lib.hid hS3; have HD3 := Lib.hid (hD3.below HD2.out hz2 hp)
  have hz3 := Nat.le_trans hz2 hD3.size
  clear hS3 hD3
  cases t with
  | true =>
    go_wp2_with fail
    refine (among_lit p _ _ [-1, 0, (s.size : Int), (s.size : Int) + 1] 2 HS3.out (by omega) (by simp) (by simp)).mono ?_; rintro e w4 ⟨x, rfl, _, hS4, hD4⟩
    have HX4 := Lib.hid (HX3.out.grown hD4 HA.out)
    have HD4 := Lib.hid (hD4.below HD3.out hz3 hp)
    clear hS4 hD4
    go_wp2_with fail
    go_ret3
    exact ⟨A2, n2, c2, xs, s, x, rfl, HX4.out, hn2, hs, HD4.out⟩
  | false =>
    go_wp2_with fail
    refine (pick_any p _ _ _ HS3.out (by omega)).mono ?_; rintro e w4 ⟨x, rfl, ⟨hx0, hx1⟩, hS4, hD4⟩
    have HX4 := Lib.hid (HX3.out.grown hD4 HA.out)
    have HD4 := Lib.hid (hD4.below HD3.out hz3 hp)
    clear hS4 hD4 hx1
    go_wp2_with fail
    go_ret3
    exact ⟨A2, n2, c2, xs, s, x, rfl, HX4.out, hn2, hs, HD4.out⟩
end Go.Proofs.Ytoghgbbepjpelaa
