/- The contracts of the draws of degrees: degrees, and a number beside them. -/
import Derived.Test.YtoghgbbepjpelaaHD2
import Derived.Test.YtoghgbbepjpelaaH1
import Derived.Test.YtoghgbbepjpelaaBp
namespace Go.Proofs.Ytoghgbbepjpelaa
open Go.RowKit
set_option linter.unusedVariables false

theorem OwnHeatRule.S {w : World} {base : Nat} {v : Value} {l : List HeatRule} (h : OwnHeatRule w base v l) (hl : l.length ≤ 1000) : ∃ g cap, v = .slice (some ⟨g, 0, none⟩) l.length cap ∧ base ≤ g ∧ HeatRuleS w (some ⟨g, 0, none⟩) l.length l := by
  obtain ⟨g, cap, rfl, hg, _, hR⟩ := h.row
  exact ⟨g, cap, rfl, hg, hR.S rfl (by omega)⟩
def SomeInt (w : World) (e : Ending) (w' : World) : Prop := ∃ x : Int, e = .returned (.int .i64 x) ∧ w = w'
theorem someMax_any (a b : Int) (w : World) : Calls Try.prog 54 #[.int .i64 a, .int .i64 b] w (SomeInt w) := (l00Max_any a b w).mono fun e w' ⟨he, hw⟩ => ⟨_, he, hw⟩
set_option maxRecDepth 100000 in
set_option maxHeartbeats 8000000 in
theorem l16Any_any (p : Nat) (m : Int) (w : World) (h : Src w p m) (hm0 : 0 ≤ m) (hm : m ≤ 1000) :
    Calls Try.prog 46 #[.pointer (some ⟨p, 0, none⟩)] w (FireD p 206 (m + 100) w) := by
  have hp := h.lt
  go_enter Try.func46, Try.ntmps46
  go_wp2_with fail
  refine (l16Draw_any p m _ h hm0 (by omega)).mono ?_; rintro e w1 ⟨v, xs, rfl, hO1, _, hl1, _, hS1, hD1⟩
  obtain ⟨g1, cp1, rfl, _, hX⟩ := hO1.S (by omega)
  have HX := Lib.hid hX
  have HS1 := Lib.hid hS1; have HD1 := Lib.hid hD1
  clear hO1 hX hS1 hD1
  go_wp2_with fail
  refine (l16Fire_any p _ _ _ _ xs _ HS1.out (by omega) (by omega) HX.out).mono ?_; rintro e w2 ⟨v, l, rfl, hO2, hl2, hS2, hD2⟩
  have HO2 := Lib.hid (hO2.base HD1.out.size)
  have HS2 := Lib.hid hS2; have HD2 := Lib.hid (HD1.out.trans hD2)
  clear hO2 hS2 hD2 HX HS1 HD1
  go_wp2_with fail
  refine (pick_any p 6 _ _ HS2.out (by omega)).mono ?_; rintro e w3 ⟨x, rfl, ⟨hx0, hx1⟩, hS3, hD3⟩
  have hx2 : x < 6 := by omega
  have HO3 := Lib.hid (HO2.out.grown hD3 hp)
  have HS3 := Lib.hid hS3; have HD3 := Lib.hid (HD2.out.trans hD3)
  clear hS3 hD3 hx1 HO2 HS2 HD2
  go_wp2_with fail
  go_loopw [4, 5] (fun v t wr => ∃ (l : List Int) (j : Int), t = .int .i64 j ∧ 0 ≤ j ∧ j ≤ 5 ∧ OwnS wr w.heap.size 2 v (List.map (Value.int .i64) l) ∧ (l.length : Int) + j ≤ 206 ∧ Src wr p (m + 90 - 4 * j) ∧ Drew p w wr) (fun _ t _ => (intOf t).toNat)
  case atStart => exact ⟨l, x, rfl, by omega, by omega, HO3.out, by omega, HS3.out.mono (by omega), HD3.out⟩
  case round =>
    obtain ⟨l, j, rfl, hj0, hj2, hO, hlen, hS, hD⟩ := hrel
    have hform := hO.form
    rw [List.length_map] at hform
    obtain ⟨g, cap, rfl⟩ := hform
    have HO := Lib.hid hO; have HS := Lib.hid hS; have HD := Lib.hid hD
    have hz := hD.size
    clear hS hD hO HO3 HS3 HD3
    obtain ⟨wo, rfl⟩ : ∃ wo : World, wo = wr := ⟨_, rfl⟩
    by_cases hlt : 0 < j
    · by_cases hl0 : 0 < l.length
      · have hw0 : (0 : Int) < (l.length : Int) := by omega
        have hw1 : IntKind.i64.wrap ((l.length : Int) - 1) = (l.length : Int) - 1 := IntWalk.i64_in _ (by omega)
        have hw2 : 0 ≤ (l.length : Int) - 1 := by omega
        have hw3 : ((l.length : Int) - 1).toNat = l.length - 1 := by omega
        have hw4 : (l.length : Int) - 1 < (l.length : Int) := by omega
        have hw5 : (1 : Int) ≤ (l.length : Int) := by omega
        have c3 := HO.out.at_ (show l.length - 1 < l.length by omega)
        go_wp2_with fail
        go_region_law ((first
          | (refine step_appC _ (by rfl) (.tmp 22) (.tmp 34) 24 (by rfl) w.heap.size 2 (.int .i64 0) 8 Try.underlying24 info_i64 rfl (.slice (some ⟨g, 0, none⟩) l.length cap) (List.map (Value.int .i64) l) (.inr (HO4.out.below (by first | exact Below.refl _ _ | exact bel_drew (Below.refl _ _) | exact (bel_drew (Below.refl _ _)).alloc (by simp) _ | exact bel_drew ((Below.refl _ _).alloc (by simp) _) | exact (Below.refl _ _).alloc (by simp) _))) (by rfl) (.int .i64 E) w4.heap.size (by rfl) (by go_simp) rfl (by rw [List.length_map]; omega) (by omega) (by first | exact hz4 | (simp; omega)) ?_
             intro v5 w5 hO5 hB5 hs5
             have hB6 : Below w.heap.size w4 w5 := Below.trans (Below.mono (B := w4.heap.size) (by first | exact Below.refl _ _ | exact bel_drew (Below.refl _ _) | exact (bel_drew (Below.refl _ _)).alloc (by simp) _ | exact bel_drew ((Below.refl _ _).alloc (by simp) _) | exact (Below.refl _ _).alloc (by simp) _) hz4) hB5
             have HO5 := Lib.hid hO5
             have HB6 := Lib.hid hB6
             obtain ⟨g5, cp5, e5, _, _⟩ := hO5
             generalize (List.map (Value.int .i64) l ++ [Value.int .i64 E]).length = n5 at e5
             subst e5
             clear hB5 hB6)
          | (go_simp
             go_at_call 49
             refine (pick_any p 20 _ _ (HS.out.below (by first | exact Below.refl _ _ | exact bel_drew (Below.refl _ _) | exact (bel_drew (Below.refl _ _)).alloc (by simp) _ | exact bel_drew ((Below.refl _ _).alloc (by simp) _) | exact (Below.refl _ _).alloc (by simp) _)) (by omega)).mono ?_
             rintro e w4 ⟨y, rfl, ⟨hy0, hy1⟩, hS4, hD4⟩
             have hO4 := (HO.out.below (by first | exact Below.refl _ _ | exact bel_drew (Below.refl _ _))).grown hD4 hp
             have c4 := hO4.at_ (show l.length - 1 < l.length by omega)
             have HO4 := Lib.hid hO4
             have HS4 := Lib.hid hS4
             have HD4 := Lib.hid ((HD.out.step (by first | exact Below.refl _ _ | exact bel_drew (Below.refl _ _))).trans hD4)
             have hz4 : w.heap.size ≤ w4.heap.size := HD4.out.size
             clear hS4 hD4 hy1 hO4)
          | (go_simp
             go_at_call 54
             refine (someMax_any _ _ _).mono ?_
             rintro e wq ⟨E, rfl, rfl⟩)))
        all_goals
          go_wp2_with fail
          go_roundw
          case rel => exact ⟨l ++ [E], j - 1, rfl, by omega, by omega, by rw [map_snoc]; exact HO5.out, by simp; omega, (HS4.out.step HB6.out hp).mono (by omega), HD4.out.step HB6.out⟩
          case measure => simp [intOf]; omega
      · have hw0 : ¬ (0 : Int) < (l.length : Int) := by omega
        go_wp2_with fail
        go_ret
        exact FireD.mk HO.out rfl (by omega) (HS.out.mono (by omega)) HD.out
    · obtain rfl : j = 0 := by omega
      have hlt0 : ¬ (0 : Int) < 0 := by omega
      go_wp2_with fail
      go_ret
      exact FireD.mk HO.out rfl (by omega) (HS.out.mono (by omega)) HD.out

/-- Drawn degrees and a number. -/
def DegN (w : World) (e : Ending) (w' : World) : Prop := ∃ A n c l x, e = .returned (.tuple #[.slice A n c, .int .i64 x]) ∧ Ints w' A n l ∧ n ≤ 206 ∧ Below w.heap.size w w'
theorem DegN.mk {w w' : World} {base : Nat} {v : Value} {l : List Int} {x : Int} (h : OwnS w' base 2 v (List.map (Value.int .i64) l)) (hl : l.length ≤ 206) (hb : Below w.heap.size w w') : DegN w (.returned (.tuple #[v, .int .i64 x])) w' := by
  obtain ⟨g, cap, rfl, _, _, hI⟩ := h.ints (by omega)
  exact ⟨_, _, _, l, x, rfl, hI, hl, hb⟩
def Degs (w : World) (e : Ending) (w' : World) : Prop := ∃ A n c l, e = .returned (.slice A n c) ∧ Ints w' A n l ∧ n ≤ 206 ∧ Below w.heap.size w w'
set_option maxHeartbeats 2000000 in
theorem drawHoursAbove_any (A : Option Addr) (n c : Nat) (w : World) (h : Bys w A n) :
    Calls Try.prog 7 #[.slice A n c] w (DegN w) := by
  have HB := Lib.hid h; clear h
  go_enter Try.func7, Try.ntmps7
  go_wp2_with fail
  refine (from_any A n c _ HB.out).mono ?_; rintro e w1 ⟨p, rfl, hp, hS, hb1⟩
  have hpl := hS.lt
  have HS := Lib.hid hS; clear hS
  go_wp2_with fail
  refine (l16Any_any p 0 _ HS.out (by omega) (by omega)).mono ?_; rintro e w2 ⟨v, l, rfl, hO2, hl2, hS2, hD2⟩
  have HO2 := Lib.hid hO2; have HS2 := Lib.hid hS2; have HD2 := Lib.hid (hD2.below hb1 hb1.size hp)
  have hz2 := Nat.le_trans hb1.size hD2.size
  clear hO2 hS2 hD2
  go_wp2_with fail
  refine (one_any p 8 _ _ HS2.out (by omega)).mono ?_; rintro e w3 ⟨t, rfl, hS3, hD3⟩
  have HO3 := Lib.hid (HO2.out.grown hD3 hpl)
  have HS3 := Lib.hid hS3; have HD3 := Lib.hid (hD3.below HD2.out hz2 hp)
  have hz3 := Nat.le_trans hz2 hD3.size
  clear hS3 hD3 HO2 HS2 HD2
  cases t with
  | true =>
    go_wp2_with fail
    refine (among_lit p _ _ [-1, 0, 1300, 1301] 2 HS3.out (by omega) (by simp) (by simp)).mono ?_; rintro e w4 ⟨x, rfl, _, hS4, hD4⟩
    have HO4 := Lib.hid (HO3.out.grown hD4 hpl)
    have HD4 := Lib.hid (hD4.below HD3.out hz3 hp)
    clear hS4 hD4
    go_wp2_with fail
    go_ret2
    exact DegN.mk HO4.out hl2 HD4.out
  | false =>
    go_wp2_with fail
    refine (pick_any p 30 _ _ HS3.out (by omega)).mono ?_; rintro e w4 ⟨x, rfl, ⟨hx0, hx1⟩, hS4, hD4⟩
    have HO4 := Lib.hid (HO3.out.grown hD4 hpl)
    have HD4 := Lib.hid (hD4.below HD3.out hz3 hp)
    have hx2 : x < 30 := by omega
    clear hS4 hD4 hx1
    go_wp2_with fail
    go_ret2
    exact DegN.mk HO4.out hl2 HD4.out
set_option maxHeartbeats 2000000 in
theorem drawCoolingFault_any (A : Option Addr) (n c : Nat) (w : World) (h : Bys w A n) :
    Calls Try.prog 15 #[.slice A n c] w (DegN w) := by
  have HB := Lib.hid h; clear h
  go_enter Try.func15, Try.ntmps15
  go_wp2_with fail
  refine (from_any A n c _ HB.out).mono ?_; rintro e w1 ⟨p, rfl, hp, hS, hb1⟩
  have hpl := hS.lt
  have HS := Lib.hid hS; clear hS
  go_wp2_with fail
  refine (l16Any_any p 0 _ HS.out (by omega) (by omega)).mono ?_; rintro e w2 ⟨v, l, rfl, hO2, hl2, hS2, hD2⟩
  have HO2 := Lib.hid hO2; have HS2 := Lib.hid hS2; have HD2 := Lib.hid (hD2.below hb1 hb1.size hp)
  have hz2 := Nat.le_trans hb1.size hD2.size
  clear hO2 hS2 hD2
  go_wp2_with fail
  refine (one_any p 8 _ _ HS2.out (by omega)).mono ?_; rintro e w3 ⟨t, rfl, hS3, hD3⟩
  have HO3 := Lib.hid (HO2.out.grown hD3 hpl)
  have HS3 := Lib.hid hS3; have HD3 := Lib.hid (hD3.below HD2.out hz2 hp)
  have hz3 := Nat.le_trans hz2 hD3.size
  clear hS3 hD3 HO2 HS2 HD2
  cases t with
  | true =>
    go_wp2_with fail
    refine (among_lit p _ _ [0, 1, 1300, 1301] 2 HS3.out (by omega) (by simp) (by simp)).mono ?_; rintro e w4 ⟨x, rfl, _, hS4, hD4⟩
    have HO4 := Lib.hid (HO3.out.grown hD4 hpl)
    have HD4 := Lib.hid (hD4.below HD3.out hz3 hp)
    clear hS4 hD4
    go_wp2_with fail
    go_ret2
    exact DegN.mk HO4.out hl2 HD4.out
  | false =>
    go_wp2_with fail
    refine (pick_any p 20 _ _ HS3.out (by omega)).mono ?_; rintro e w4 ⟨x, rfl, ⟨hx0, hx1⟩, hS4, hD4⟩
    have HO4 := Lib.hid (HO3.out.grown hD4 hpl)
    have HD4 := Lib.hid (hD4.below HD3.out hz3 hp)
    have hx2 : x < 20 := by omega
    clear hS4 hD4 hx1
    go_wp2_with fail
    go_ret2
    exact DegN.mk HO4.out hl2 HD4.out
set_option maxHeartbeats 2000000 in
theorem drawFuelFor_any (A : Option Addr) (n c : Nat) (w : World) (h : Bys w A n) :
    Calls Try.prog 18 #[.slice A n c] w (DegN w) := by
  have HB := Lib.hid h; clear h
  go_enter Try.func18, Try.ntmps18
  go_wp2_with fail
  refine (from_any A n c _ HB.out).mono ?_; rintro e w1 ⟨p, rfl, hp, hS, hb1⟩
  have hpl := hS.lt
  have HS := Lib.hid hS; clear hS
  go_wp2_with fail
  refine (l16Any_any p 0 _ HS.out (by omega) (by omega)).mono ?_; rintro e w2 ⟨v, l, rfl, hO2, hl2, hS2, hD2⟩
  have HO2 := Lib.hid hO2; have HS2 := Lib.hid hS2; have HD2 := Lib.hid (hD2.below hb1 hb1.size hp)
  have hz2 := Nat.le_trans hb1.size hD2.size
  clear hO2 hS2 hD2
  go_wp2_with fail
  refine (one_any p 8 _ _ HS2.out (by omega)).mono ?_; rintro e w3 ⟨t, rfl, hS3, hD3⟩
  have HO3 := Lib.hid (HO2.out.grown hD3 hpl)
  have HS3 := Lib.hid hS3; have HD3 := Lib.hid (hD3.below HD2.out hz2 hp)
  have hz3 := Nat.le_trans hz2 hD3.size
  clear hS3 hD3 HO2 HS2 HD2
  cases t with
  | true =>
    go_wp2_with fail
    refine (among_lit p _ _ [-1, 0, 1, 1000, 1001] 2 HS3.out (by omega) (by simp) (by simp)).mono ?_; rintro e w4 ⟨x, rfl, _, hS4, hD4⟩
    have HO4 := Lib.hid (HO3.out.grown hD4 hpl)
    have HD4 := Lib.hid (hD4.below HD3.out hz3 hp)
    clear hS4 hD4
    go_wp2_with fail
    go_ret2
    exact DegN.mk HO4.out hl2 HD4.out
  | false =>
    go_wp2_with fail
    refine (pick_any p 20 _ _ HS3.out (by omega)).mono ?_; rintro e w4 ⟨x, rfl, ⟨hx0, hx1⟩, hS4, hD4⟩
    have HO4 := Lib.hid (HO3.out.grown hD4 hpl)
    have HD4 := Lib.hid (hD4.below HD3.out hz3 hp)
    have hx2 : x < 20 := by omega
    clear hS4 hD4 hx1
    go_wp2_with fail
    go_ret2
    exact DegN.mk HO4.out hl2 HD4.out
theorem drawHottestHour_any (A : Option Addr) (n c : Nat) (w : World) (h : Bys w A n) :
    Calls Try.prog 12 #[.slice A n c] w (Degs w) := by
  have HB := Lib.hid h; clear h
  go_enter Try.func12, Try.ntmps12
  go_wp2_with fail
  refine (from_any A n c _ HB.out).mono ?_; rintro e w1 ⟨p, rfl, hp, hS, hb1⟩
  have HS := Lib.hid hS; clear hS
  go_wp2_with fail
  refine (l16Any_any p 0 _ HS.out (by omega) (by omega)).mono ?_; rintro e w2 ⟨v, l, rfl, hO2, hl2, hS2, hD2⟩
  obtain ⟨g, cap, rfl, _, _, hI⟩ := hO2.ints (by omega)
  have HI := Lib.hid hI; have HD2 := Lib.hid (hD2.below hb1 hb1.size hp)
  clear hO2 hS2 hD2 hI
  go_wp2_with fail
  go_ret
  exact ⟨_, _, _, l, rfl, HI.out, hl2, HD2.out⟩
end Go.Proofs.Ytoghgbbepjpelaa
