/- The contracts of the draws that the law on firings reads: rules that are seldom not valid, rules and degrees, two lists of rules. -/
import Derived.Test.YtoghgbbepjpelaaGreatDoorHD2
import Derived.Test.YtoghgbbepjpelaaGreatDoorBp
namespace Go.Proofs.YtoghgbbepjpelaaGreatDoor
open Go.RowKit
set_option linter.unusedVariables false

theorem HeatRuleS.keptD {w w' : World} {A : Option Addr} {n p : Nat} {xs : List HeatRule} (h : HeatRuleS w A n xs) (hg : w.grownBy w' (some p)) (hne : ∀ b off, A = some ⟨b, off, none⟩ → p < b) : HeatRuleS w' A n xs :=
  ⟨h.len, h.bound, fun hn => by
    obtain ⟨b, off, e, hlt, hc⟩ := h.cell hn
    have hb := hne b off e
    exact ⟨b, off, e, Nat.lt_of_lt_of_le hlt hg.size, fun j hj => (hc j hj).keep fun o => World.cell?_of_block (hg.block b hlt (fun e => by simp only [Option.some.injEq] at e; omega))⟩⟩
theorem RowFHeatRule.list {w : World} {g n : Nat} {f : Nat → HeatRule} (h : RowFHeatRule w g n f) (hn : n ≤ 1048576) : ∃ xs : List HeatRule, xs.length = n ∧ HeatRuleS w (some ⟨g, 0, none⟩) n xs := by
  refine ⟨(List.range n).map f, by simp, by simp, hn, fun _ => ⟨g, 0, rfl, h.lt, fun j hj => ?_⟩⟩
  have e : nt ((List.range n).map f) j = f j := by simp [nt, hj]
  rw [e, Nat.zero_add]
  exact h.cell j hj
theorem at_someH {g B : Nat} (h : B ≤ g) : ∀ b off, (some ⟨g, 0, none⟩ : Option Addr) = some ⟨b, off, none⟩ → B ≤ b := fun b off e => by
  simp only [Option.some.injEq, Addr.mk.injEq, and_true] at e; omega
/-- Drawn rules, seldom not valid. -/
def RulesM (p : Nat) (m : Int) (w : World) (e : Ending) (w' : World) : Prop := ∃ A n c xs, e = .returned (.slice A n c) ∧ HeatRuleS w' A n xs ∧ n ≤ 9 ∧ Src w' p m ∧ Drew p w w' ∧ ∀ b off, A = some ⟨b, off, none⟩ → w.heap.size ≤ b
theorem RulesM.own {p base : Nat} {m : Int} {w w' : World} {v : Value} {xs : List HeatRule} (h : OwnHeatRule w' base v xs) (hl : xs.length ≤ 9) (hbase : w.heap.size ≤ base) (hS : Src w' p m) (hD : Drew p w w') : RulesM p m w (.returned v) w' := by
  obtain ⟨g, cap, rfl, hg, _, hR⟩ := h.row
  exact ⟨_, _, _, xs, rfl, hR.S rfl (by omega), hl, hS, hD, at_someH (by omega)⟩
theorem RulesM.row {p g n c : Nat} {m : Int} {w w' : World} {f : Nat → HeatRule} (h : RowFHeatRule w' g n f) (hl : n ≤ 9) (hg : w.heap.size ≤ g) (hS : Src w' p m) (hD : Drew p w w') : RulesM p m w (.returned (.slice (some ⟨g, 0, none⟩) n c)) w' := by
  obtain ⟨xs, _, hX⟩ := h.list (by omega)
  exact ⟨_, _, _, xs, rfl, hX, hl, hS, hD, at_someH hg⟩
set_option maxRecDepth 20000 in
set_option maxHeartbeats 8000000 in
theorem l16Bent_any (p : Nat) (m : Int) (w : World) (h : Src w p m) (hm0 : 0 ≤ m) (hm : m ≤ 1000) :
    Calls Tryz.prog 30 #[.pointer (some ⟨p, 0, none⟩)] w (RulesM p (m + 60) w) := by
  have hp := h.lt
  go_enter Tryz.func30, Tryz.ntmps30
  go_wp2_with fail
  refine (l16Draw_any p m _ h hm0 (by omega)).mono ?_; rintro e w1 ⟨v, l, rfl, hO1, hl0, hl1, _, hS1, hD1⟩
  have HO1 := Lib.hid hO1
  obtain ⟨g, cap, hv, hg, hr⟩ := hO1
  subst hv
  have HS1 := Lib.hid hS1
  have HD1 := Lib.hid hD1
  have hz1 := hD1.size
  clear hS1 hD1 hr
  go_wp2_with fail
  refine (pick_any p _ _ _ HS1.out (by omega)).mono ?_; rintro e w2 ⟨y, rfl, ⟨hy0, hy1⟩, hS2, hD2⟩
  obtain ⟨k, rfl⟩ := Int.eq_ofNat_of_zero_le hy0
  have hk : k < l.length := by omega
  have HO2 := Lib.hid (HO1.out.grown hD2 hp)
  have HS2 := Lib.hid hS2
  have HD2 := Lib.hid (HD1.out.trans hD2)
  have hz2 := hD2.size
  clear hS2 hD2 hy1 HO1 HS1 HD1
  go_wp2_with fail
  refine (pick_any p 24 _ _ HS2.out (by omega)).mono ?_; rintro e w3 ⟨x, rfl, ⟨hx0, hx1⟩, hS3, hD3⟩
  have HO3 := Lib.hid (HO2.out.grown hD3 hp)
  have HS3 := Lib.hid hS3
  have HD3 := Lib.hid (HD2.out.trans hD3)
  have hz3 := hD3.size
  have hcase : x = 0 ∨ x = 1 ∨ x = 2 ∨ x = 3 ∨ x = 4 ∨ (x ≠ 0 ∧ x ≠ 1 ∧ x ≠ 2 ∧ x ≠ 3 ∧ x ≠ 4) := by omega
  clear hS3 hD3 hx1 HO2 HS2 HD2
  have HROW : ∀ W : World, Drew p w3 W → Hid (RowFHeatRule W g l.length (nt l)) := fun W hD => by
    obtain ⟨g', cap', hv', hgb, _, hRow⟩ := HO3.out.row
    simp only [Value.slice.injEq, Option.some.injEq, Addr.mk.injEq, and_true, true_and] at hv'
    obtain ⟨rfl, rfl⟩ := hv'
    exact Lib.hid (hRow.grownF hD (by omega))
  have HROW := Lib.hid HROW
  rcases hcase with rfl | rfl | rfl | rfl | rfl | ⟨x0, x1, x2, x3, x4⟩
  · go_wp2_with fail
    refine (among_lit p _ _ [0, 1, 1300, 1301, -9223372036854775808] 2 HS3.out (by omega) (by simp) (by simp)).mono ?_; rintro e w4 ⟨v, rfl, _, hS4, hD4⟩
    have HR4 := HROW.out _ hD4
    have HD4 := Lib.hid (HD3.out.trans hD4)
    have HS4 := Lib.hid hS4
    obtain ⟨q0, q1, q2⟩ := HR4.out.cell k hk
    have qf := HR4.out.frozen (k * 3)
    clear hS4 hD4
    go_wp2_with fail
    go_ret
    exact RulesM.row (HR4.out.setUpto hk v) (by omega) (by omega) ((HS4.out.mono (by omega)).step (B := w.heap.size) ((Below.refl _ w4).setCell (p := ⟨g, k * 3, none⟩) hg _) hp) (HD4.out.step ((Below.refl _ w4).setCell (p := ⟨g, k * 3, none⟩) hg _))
  · go_wp2_with fail
    refine (among_lit p _ _ [0, 1, 300, 301] 2 HS3.out (by omega) (by simp) (by simp)).mono ?_; rintro e w4 ⟨v, rfl, _, hS4, hD4⟩
    have HR4 := HROW.out _ hD4
    have HD4 := Lib.hid (HD3.out.trans hD4)
    have HS4 := Lib.hid hS4
    obtain ⟨q0, q1, q2⟩ := HR4.out.cell k hk
    have qf := HR4.out.frozen (k * 3 + 1)
    clear hS4 hD4
    go_wp2_with fail
    go_ret
    exact RulesM.row (HR4.out.setRise hk v) (by omega) (by omega) ((HS4.out.mono (by omega)).step (B := w.heap.size) ((Below.refl _ w4).setCell (p := ⟨g, k * 3 + 1, none⟩) hg _) hp) (HD4.out.step ((Below.refl _ w4).setCell (p := ⟨g, k * 3 + 1, none⟩) hg _))
  · go_wp2_with fail
    refine (among_lit p _ _ [-1, 0, 48, 49] 2 HS3.out (by omega) (by simp) (by simp)).mono ?_; rintro e w4 ⟨v, rfl, _, hS4, hD4⟩
    have HR4 := HROW.out _ hD4
    have HD4 := Lib.hid (HD3.out.trans hD4)
    have HS4 := Lib.hid hS4
    obtain ⟨q0, q1, q2⟩ := HR4.out.cell k hk
    have qf := HR4.out.frozen (k * 3 + 2)
    clear hS4 hD4
    go_wp2_with fail
    go_ret
    exact RulesM.row (HR4.out.setHold hk v) (by omega) (by omega) ((HS4.out.mono (by omega)).step (B := w.heap.size) ((Below.refl _ w4).setCell (p := ⟨g, k * 3 + 2, none⟩) hg _) hp) (HD4.out.step ((Below.refl _ w4).setCell (p := ⟨g, k * 3 + 2, none⟩) hg _))
  · go_wp2_with fail
    go_ret
    have hal : Below w.heap.size w3 (w3.alloc (.cells #[] 48)) := (Below.refl _ _).alloc (by omega) _
    exact ⟨_, _, _, [], rfl, ⟨rfl, by omega, fun h => absurd h (by omega)⟩, by omega, (HS3.out.mono (by omega)).step hal hp, HD3.out.step hal, at_someH (by omega)⟩
  · go_wp2_with fail
    have A3 : Below w3.heap.size w3 (w3.alloc (.cells #[] 48)) := (Below.refl _ _).alloc (Nat.le_refl _) _
    refine (pick_any p 2 _ _ (HS3.out.below A3) (by omega)).mono ?_; rintro e w4 ⟨y, rfl, ⟨hy0, hy1⟩, hS4, hD4⟩
    have hy2 : y < 2 := by omega
    have HO4 := Lib.hid ((OwnHeatRule.made' (base := w3.heap.size) (w := w3) (Nat.le_refl _) rfl).grown hD4 (by omega))
    have HS4 := Lib.hid hS4
    have hz4 := hD4.size; simp only [World.size_alloc] at hz4
    have HD4 := Lib.hid ((HD3.out.trans (Drew.of_below A3)).trans hD4)
    clear hS4 hy1 hD4 HS3 HD3 HROW HO3 hg A3
    go_wp2_with fail
    go_loopw [3, 5] (fun v t wr => ∃ (l : List HeatRule) (j : Int), t = .int .i64 j ∧ 0 ≤ j ∧ j ≤ 9 ∧ OwnHeatRule wr w3.heap.size v l ∧ (l.length : Int) + j ≤ 9 ∧ Src wr p (m + 60) ∧ Drew p w wr ∧ w3.heap.size ≤ wr.heap.size) (fun _ t _ => (intOf t).toNat)
    case atStart => exact ⟨[], 8 + y, rfl, by omega, by omega, HO4.out, by simp; omega, HS4.out.mono (by omega), HD4.out, by omega⟩
    case round =>
      obtain ⟨l, j, rfl, hj0, hj2, hO, hlen, hS, hD, hzr⟩ := hrel
      have HO := Lib.hid hO
      obtain ⟨g, cap, hv, hg, hr⟩ := hO
      subst hv
      have HS := Lib.hid hS; have HD := Lib.hid hD
      have hz := hD.size
      clear hS hD hr HO4 HS4 HD4
      obtain ⟨wo, rfl⟩ : ∃ wo : World, wo = wr := ⟨_, rfl⟩
      by_cases hlt : 0 < j
      · go_wp2_with (at_builtin; refine wpList_appHeatRule1 _ rfl (.tmp 53) (.tmp 59) rfl w3.heap.size _ _ HO.out rfl ⟨100 * ((l.length : Int) + 1), 100, 0⟩ _ rfl rfl (by omega) hzr ?_; intro v5 w5 hO5 hk5 hs5)
        have hB5 : Below w3.heap.size wo w5 := hk5 (Nat.le_refl _) (Below.refl _ _)
        go_roundw
        case rel => exact ⟨l ++ [_], j - 1, rfl, by omega, by omega, hO5, by simp; omega, HS.out.step hB5 (by omega), HD.out.step (hB5.mono (by omega)), by omega⟩
        case measure => simp [intOf]; omega
      · obtain rfl : j = 0 := by omega
        have hlt0 : ¬ (0 : Int) < 0 := by omega
        go_wp2_with fail
        go_ret
        exact RulesM.own HO.out (by omega) (by omega) HS.out HD.out
  · have e0 : (x == 0) = false := by simpa using x0
    have e1 : (x == 1) = false := by simpa using x1
    have e2 : (x == 2) = false := by simpa using x2
    have e3 : (x == 3) = false := by simpa using x3
    have e4 : (x == 4) = false := by simpa using x4
    go_wp2_with fail
    go_ret
    exact RulesM.own HO3.out (by omega) (Nat.le_refl _) (HS3.out.mono (by omega)) HD3.out

/-- Drawn rules and a number. -/
def RulesN (w : World) (e : Ending) (w' : World) : Prop := ∃ A n c xs x, e = .returned (.tuple #[.slice A n c, .int .i64 x]) ∧ HeatRuleS w' A n xs ∧ n ≤ 9 ∧ Below w.heap.size w w'
set_option maxHeartbeats 2000000 in
theorem l16Start_any (A : Option Addr) (n c : Nat) (w : World) (h : Bys w A n) :
    Calls Tryz.prog 25 #[.slice A n c] w (RulesN w) := by
  have HB := Lib.hid h; clear h
  go_enter Tryz.func25, Tryz.ntmps25
  go_wp2_with fail
  refine (from_any A n c _ HB.out).mono ?_; rintro e w1 ⟨p, rfl, hp, hS, hb1⟩
  have hpl := hS.lt
  have HS := Lib.hid hS; clear hS
  go_wp2_with fail
  refine (l16Bent_any p 0 _ HS.out (by omega) (by omega)).mono ?_; rintro e w2 ⟨A2, n2, c2, xs, rfl, hX, hn2, hS2, hD2, hA⟩
  have HA := Lib.hid (fun b off e => Nat.lt_of_lt_of_le hpl (hA b off e))
  have HX2 := Lib.hid hX
  have HS2 := Lib.hid hS2; have HD2 := Lib.hid (hD2.below hb1 hb1.size hp)
  have hz2 := Nat.le_trans hb1.size hD2.size
  clear hS2 hD2 hX hA
  go_wp2_with fail
  refine (one_any p 8 _ _ HS2.out (by omega)).mono ?_; rintro e w3 ⟨t, rfl, hS3, hD3⟩
  have HX3 := Lib.hid (HX2.out.keptD hD3 HA.out)
  have HS3 := Lib.hid hS3; have HD3 := Lib.hid (hD3.below HD2.out hz2 hp)
  have hz3 := Nat.le_trans hz2 hD3.size
  clear hS3 hD3
  cases t with
  | true =>
    go_wp2_with fail
    refine (among_lit p _ _ [-1, 0, 1300, 1301] 2 HS3.out (by omega) (by simp) (by simp)).mono ?_; rintro e w4 ⟨x, rfl, _, hS4, hD4⟩
    have HX4 := Lib.hid (HX3.out.keptD hD4 HA.out)
    have HD4 := Lib.hid (hD4.below HD3.out hz3 hp)
    clear hS4 hD4
    go_wp2_with fail
    go_ret2
    exact ⟨A2, n2, c2, xs, x, rfl, HX4.out, hn2, HD4.out⟩
  | false =>
    go_wp2_with fail
    refine (pick_any p 120 _ _ HS3.out (by omega)).mono ?_; rintro e w4 ⟨x, rfl, ⟨hx0, hx1⟩, hS4, hD4⟩
    have HX4 := Lib.hid (HX3.out.keptD hD4 HA.out)
    have HD4 := Lib.hid (hD4.below HD3.out hz3 hp)
    clear hS4 hD4 hx1
    go_wp2_with fail
    go_ret2
    exact ⟨A2, n2, c2, xs, x, rfl, HX4.out, hn2, HD4.out⟩
theorem drawFastestFire_any (A : Option Addr) (n c : Nat) (w : World) (h : Bys w A n) :
    Calls Tryz.prog 5 #[.slice A n c] w (RulesN w) := by
  have HB := Lib.hid h; clear h
  go_enter Tryz.func5, Tryz.ntmps5
  go_wp2_with fail
  refine (l16Start_any A n c _ HB.out).mono ?_; rintro e w2 ⟨A2, n2, c2, xs, x, rfl, hX, hn2, hb2⟩
  have HX := Lib.hid hX; clear hX
  go_wp2_with fail
  go_ret2
  exact ⟨A2, n2, c2, xs, x, rfl, HX.out, hn2, hb2⟩
def RulesW (w : World) (e : Ending) (w' : World) : Prop := ∃ A n c xs, e = .returned (.slice A n c) ∧ HeatRuleS w' A n xs ∧ n ≤ 9 ∧ Below w.heap.size w w'
theorem drawHeatRulesText_any (A : Option Addr) (n c : Nat) (w : World) (h : Bys w A n) :
    Calls Tryz.prog 13 #[.slice A n c] w (RulesW w) := by
  have HB := Lib.hid h; clear h
  go_enter Tryz.func13, Tryz.ntmps13
  go_wp2_with fail
  refine (from_any A n c _ HB.out).mono ?_; rintro e w1 ⟨p, rfl, hp, hS, hb1⟩
  have HS := Lib.hid hS; clear hS
  go_wp2_with fail
  refine (l16Bent_any p 0 _ HS.out (by omega) (by omega)).mono ?_; rintro e w2 ⟨A2, n2, c2, xs, rfl, hX, hn2, hS2, hD2, hA⟩
  have HX2 := Lib.hid hX
  have HD2 := Lib.hid (hD2.below hb1 hb1.size hp)
  clear hS2 hD2 hX hA
  go_wp2_with fail
  go_ret
  exact ⟨A2, n2, c2, xs, rfl, HX2.out, hn2, HD2.out⟩
/-- Drawn rules and drawn degrees. -/
def RulesDeg (w : World) (e : Ending) (w' : World) : Prop := ∃ A n c xs B k d ds, e = .returned (.tuple #[.slice A n c, .slice B k d]) ∧ HeatRuleS w' A n xs ∧ n ≤ 9 ∧ Ints w' B k ds ∧ k ≤ 201 ∧ Below w.heap.size w w'
set_option maxHeartbeats 2000000 in
theorem drawFireFault_any (A : Option Addr) (n c : Nat) (w : World) (h : Bys w A n) :
    Calls Tryz.prog 10 #[.slice A n c] w (RulesDeg w) := by
  have HB := Lib.hid h; clear h
  go_enter Tryz.func10, Tryz.ntmps10
  go_wp2_with fail
  refine (from_any A n c _ HB.out).mono ?_; rintro e w1 ⟨p, rfl, hp, hS, hb1⟩
  have hpl := hS.lt
  have HS := Lib.hid hS; clear hS
  go_wp2_with fail
  refine (l16Bent_any p 0 _ HS.out (by omega) (by omega)).mono ?_; rintro e w2 ⟨A2, n2, c2, xs, rfl, hX, hn2, hS2, hD2, hA⟩
  have HA := Lib.hid (fun b off e => Nat.lt_of_lt_of_le hpl (hA b off e))
  have HX2 := Lib.hid hX
  have HS2 := Lib.hid hS2; have HD2 := Lib.hid (hD2.below hb1 hb1.size hp)
  have hz2 := Nat.le_trans hb1.size hD2.size
  clear hS2 hD2 hX hA
  go_wp2_with fail
  refine (l16Fire_any p _ _ _ _ xs _ HS2.out (by omega) (by omega) HX2.out).mono ?_; rintro e w3 ⟨v, l, rfl, hO3, hl3, hS3, hD3⟩
  obtain ⟨g, cap, rfl, _, _, hI⟩ := hO3.ints (by omega)
  have HI := Lib.hid hI
  have HX3 := Lib.hid (HX2.out.keptD hD3 HA.out)
  have HD3 := Lib.hid (hD3.below HD2.out hz2 hp)
  clear hS3 hD3 hO3 hI
  go_wp2_with fail
  go_ret2
  exact ⟨A2, n2, c2, xs, _, _, _, l, rfl, HX3.out, hn2, HI.out, hl3, HD3.out⟩
end Go.Proofs.YtoghgbbepjpelaaGreatDoor
