/- The contracts of SameHeatRules, the reference's and the program's. -/
import Derived.Test.YtoghgbbepjpelaaGreatDoorRHeatRule
namespace Go.Proofs.YtoghgbbepjpelaaGreatDoor
open Go.RowKit
set_option linter.unusedVariables false

def HeatRule.eqB (a b : HeatRule) : Bool := a.Upto == b.Upto && (a.Rise == b.Rise && (a.Hold == b.Hold))
def HeatRule.sameB (xs ys : List HeatRule) : Bool := decide (xs.length = ys.length) && (List.range xs.length).all fun k => HeatRule.eqB (nt xs k) (nt ys k)
theorem HeatRule.sameB_no {xs ys : List HeatRule} {k : Nat} (hk : k < xs.length) (h : HeatRule.eqB (nt xs k) (nt ys k) = false) : HeatRule.sameB xs ys = false := by
  have : ((List.range xs.length).all fun k => HeatRule.eqB (nt xs k) (nt ys k)) = false := by
    rw [List.all_eq_false]
    exact ⟨k, List.mem_range.2 hk, by rw [h]; simp⟩
  rw [HeatRule.sameB, this, Bool.and_false]
theorem HeatRule.sameB_yes {xs ys : List HeatRule} (hl : xs.length = ys.length) (h : ∀ k, k < xs.length → HeatRule.eqB (nt xs k) (nt ys k) = true) : HeatRule.sameB xs ys = true := by
  have : ((List.range xs.length).all fun k => HeatRule.eqB (nt xs k) (nt ys k)) = true := by
    rw [List.all_eq_true]
    exact fun k hk => h k (List.mem_range.1 hk)
  rw [HeatRule.sameB, this, hl]; simp

set_option maxHeartbeats 1000000 in
theorem specSameHeatRules_any (A : Option Addr) (n c : Nat) (xs : List HeatRule) (B : Option Addr) (m d : Nat) (ys : List HeatRule) (w : World) (hA : HeatRuleS w A n xs) (hB : HeatRuleS w B m ys) :
    Calls Tryz.prog 21 #[.slice A n c, .slice B m d] w fun e w' => e = .returned (.bool (HeatRule.sameB xs ys)) ∧ Below w.heap.size w w' := by
  have hn := hA.bound
  have hm := hB.bound
  by_cases hlen : n = m
  · obtain rfl := hlen
    have L := Lib.hid (show xs.length = ys.length by rw [hA.len, hB.len])
    have LX := Lib.hid hA.len
    go_enter Tryz.func21, Tryz.ntmps21
    go_wp2
    go_loopw [5] (fun i wr => ∃ k : Nat, k ≤ n ∧ i = .int .i64 k ∧ (∀ j, j < k → HeatRule.eqB (nt xs j) (nt ys j) = true) ∧ Below w.heap.size w wr) (fun i _ => n - (intOf i).toNat)
    case atStart => exact ⟨0, Nat.zero_le _, rfl, fun j hj => absurd hj (by omega), Below.refl _ _⟩
    case round =>
      obtain ⟨k, hk, rfl, hall, hbel⟩ := hrel
      have HA := Lib.hid hall; clear hall
      by_cases hlt : k < n
      · obtain ⟨b, off, rfl, hb, hc⟩ := (hA.below hbel).cell (by omega)
        obtain ⟨b2, off2, rfl, hb2, hc2⟩ := (hB.below hbel).cell (by omega)
        obtain ⟨hq0, hq1, hq2⟩ := hc k hlt
        obtain ⟨hp0, hp1, hp2⟩ := hc2 k hlt
        clear hc hc2
        rcases Bool.eq_false_or_eq_true (HeatRule.eqB (nt xs k) (nt ys k)) with g | g
        · have G := Lib.hid g
          simp only [HeatRule.eqB, Bool.and_eq_true] at g
          obtain ⟨g0, g1, g2⟩ := g
          go_wp2
          go_quiet (fail)
          go_wp2
          go_roundw
          case rel => exact ⟨k + 1, by omega, by go_num, fun j hj => by
            rcases Nat.lt_or_ge j k with h | h
            · exact HA.out j h
            · obtain rfl : j = k := by omega
              exact G.out, bel_tr hbel (below_drewN (Below.refl _ _) _)⟩
          case measure => simp [intOf]; omega
        · have E := Lib.hid (HeatRule.sameB_no (by rw [LX.out]; exact hlt) g)
          rcases Bool.eq_false_or_eq_true ((nt xs k).Upto == (nt ys k).Upto) with g0 | g0
          · rcases Bool.eq_false_or_eq_true ((nt xs k).Rise == (nt ys k).Rise) with g1 | g1
            · rcases Bool.eq_false_or_eq_true ((nt xs k).Hold == (nt ys k).Hold) with g2 | g2
              · exfalso; rw [HeatRule.eqB, g0, g1, g2] at g; simp at g
              · clear g
                go_wp2
                go_quiet (fail)
                go_wp2
                go_ret
                exact ⟨ret_bool E.out.symm, bel_tr hbel (below_drewN (Below.refl _ _) _)⟩
            · clear g
              go_wp2
              go_quiet (fail)
              go_wp2
              go_ret
              exact ⟨ret_bool E.out.symm, bel_tr hbel (below_drewN (Below.refl _ _) _)⟩
          · clear g
            go_wp2
            go_quiet (fail)
            go_wp2
            go_ret
            exact ⟨ret_bool E.out.symm, bel_tr hbel (below_drewN (Below.refl _ _) _)⟩
      · go_wp2
        go_ret
        obtain rfl : k = n := by omega
        exact ⟨ret_bool (HeatRule.sameB_yes L.out (by rw [LX.out]; exact HA.out)).symm, hbel⟩
  · have E := Lib.hid (show HeatRule.sameB xs ys = false by
      have : decide (xs.length = ys.length) = false := by rw [decide_eq_false_iff_not, hA.len, hB.len]; exact hlen
      rw [HeatRule.sameB, this]; rfl)
    have h3 : ((n : Int) != (m : Int)) = true := by simp; omega
    go_enter Tryz.func21, Tryz.ntmps21
    go_wp2
    go_ret
    exact ⟨ret_bool E.out.symm, Below.refl _ _⟩

set_option maxHeartbeats 1000000 in
theorem equalHeatRule_any (A : Option Addr) (n c : Nat) (xs : List HeatRule) (B : Option Addr) (m d : Nat) (ys : List HeatRule) (w : World) (hA : HeatRuleS w A n xs) (hB : HeatRuleS w B m ys) :
    Calls Tryz.prog 48 #[.slice A n c, .slice B m d] w fun e w' => e = .returned (.bool (HeatRule.sameB xs ys)) ∧ Below w.heap.size w w' := by
  have hn := hA.bound
  have hm := hB.bound
  by_cases hlen : n = m
  · obtain rfl := hlen
    have L := Lib.hid (show xs.length = ys.length by rw [hA.len, hB.len])
    have LX := Lib.hid hA.len
    go_enter Tryz.func48, Tryz.ntmps48
    go_wp2
    go_loopw [13] (fun i wr => ∃ k : Nat, k ≤ n ∧ i = .int .i64 k ∧ (∀ j, j < k → HeatRule.eqB (nt xs j) (nt ys j) = true) ∧ Below w.heap.size w wr) (fun i _ => n - (intOf i).toNat)
    case atStart => exact ⟨0, Nat.zero_le _, rfl, fun j hj => absurd hj (by omega), Below.refl _ _⟩
    case round =>
      obtain ⟨k, hk, rfl, hall, hbel⟩ := hrel
      have HA := Lib.hid hall; clear hall
      by_cases hlt : k < n
      · obtain ⟨b, off, rfl, hb, hc⟩ := (hA.below hbel).cell (by omega)
        obtain ⟨b2, off2, rfl, hb2, hc2⟩ := (hB.below hbel).cell (by omega)
        obtain ⟨hq0, hq1, hq2⟩ := hc k hlt
        obtain ⟨hp0, hp1, hp2⟩ := hc2 k hlt
        clear hc hc2
        rcases Bool.eq_false_or_eq_true (HeatRule.eqB (nt xs k) (nt ys k)) with g | g
        · have G := Lib.hid g
          simp only [HeatRule.eqB, Bool.and_eq_true] at g
          obtain ⟨g0, g1, g2⟩ := g
          go_wp2
          go_quiet (fail)
          go_wp2
          go_roundw
          case rel => exact ⟨k + 1, by omega, by go_num, fun j hj => by
            rcases Nat.lt_or_ge j k with h | h
            · exact HA.out j h
            · obtain rfl : j = k := by omega
              exact G.out, bel_tr hbel (below_drewN (Below.refl _ _) _)⟩
          case measure => simp [intOf]; omega
        · have E := Lib.hid (HeatRule.sameB_no (by rw [LX.out]; exact hlt) g)
          rcases Bool.eq_false_or_eq_true ((nt xs k).Upto == (nt ys k).Upto) with g0 | g0
          · rcases Bool.eq_false_or_eq_true ((nt xs k).Rise == (nt ys k).Rise) with g1 | g1
            · rcases Bool.eq_false_or_eq_true ((nt xs k).Hold == (nt ys k).Hold) with g2 | g2
              · exfalso; rw [HeatRule.eqB, g0, g1, g2] at g; simp at g
              · clear g
                go_wp2
                go_quiet (fail)
                go_wp2
                go_ret
                exact ⟨ret_bool E.out.symm, bel_tr hbel (below_drewN (Below.refl _ _) _)⟩
            · clear g
              go_wp2
              go_quiet (fail)
              go_wp2
              go_ret
              exact ⟨ret_bool E.out.symm, bel_tr hbel (below_drewN (Below.refl _ _) _)⟩
          · clear g
            go_wp2
            go_quiet (fail)
            go_wp2
            go_ret
            exact ⟨ret_bool E.out.symm, bel_tr hbel (below_drewN (Below.refl _ _) _)⟩
      · go_wp2
        go_ret
        obtain rfl : k = n := by omega
        exact ⟨ret_bool (HeatRule.sameB_yes L.out (by rw [LX.out]; exact HA.out)).symm, hbel⟩
  · have E := Lib.hid (show HeatRule.sameB xs ys = false by
      have : decide (xs.length = ys.length) = false := by rw [decide_eq_false_iff_not, hA.len, hB.len]; exact hlen
      rw [HeatRule.sameB, this]; rfl)
    have h3 : ((n : Int) != (m : Int)) = true := by simp; omega
    go_enter Tryz.func48, Tryz.ntmps48
    go_wp2
    go_ret
    exact ⟨ret_bool E.out.symm, Below.refl _ _⟩

theorem implSameHeatRules_any (A : Option Addr) (n c : Nat) (xs : List HeatRule) (B : Option Addr) (m d : Nat) (ys : List HeatRule) (w : World) (hA : HeatRuleS w A n xs) (hB : HeatRuleS w B m ys) :
    Calls Tryz.prog 22 #[.slice A n c, .slice B m d] w fun e w' => e = .returned (.bool (HeatRule.sameB xs ys)) ∧ Below w.heap.size w w' := by
  go_enter Tryz.func22, Tryz.ntmps22
  go_wp2_with (go_at_call 48; refine (equalHeatRule_any _ _ _ xs _ _ _ ys _ hA hB).mono ?_; rintro e w1 ⟨rfl, hb1⟩)
  go_ret
  exact ⟨rfl, hb1⟩
end Go.Proofs.YtoghgbbepjpelaaGreatDoor
