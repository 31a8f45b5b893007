/- The contracts of ValidHeatRules, the reference's and the program's. -/
import Derived.Test.YtoghgbbepjpelaaGreatDoorRHeatRule
import Derived.Test.YtoghgbbepjpelaaGreatDoorSm
namespace Go.Proofs.YtoghgbbepjpelaaGreatDoor
open Go.RowKit
set_option linter.unusedVariables false

/-- Is the rule at k right, and above the one ahead of it? -/
def ruleB (xs : List HeatRule) (k : Nat) : Bool := inB (nt xs k).Upto 1 1300 && (inB (nt xs k).Rise 1 300 && (inB (nt xs k).Hold 0 48 && (decide (k = 0) || decide ((nt xs (k - 1)).Upto < (nt xs k).Upto))))
def rulesUp (xs : List HeatRule) (k : Nat) : Bool := (List.range k).all (ruleB xs)
def rulesOk (xs : List HeatRule) : Bool := rulesUp xs xs.length && inB xs.length 1 8
theorem rulesUp_succ (xs : List HeatRule) (k : Nat) : rulesUp xs (k + 1) = (rulesUp xs k && ruleB xs k) := by simp [rulesUp, List.range_succ]
theorem rulesUp_at {xs : List HeatRule} {n k : Nat} (h : rulesUp xs n = true) (hk : k < n) : ruleB xs k = true := by
  rw [rulesUp, List.all_eq_true] at h
  exact h k (List.mem_range.2 hk)
theorem rulesOk_bad {xs : List HeatRule} {k : Nat} (hk : k < xs.length) (h : ruleB xs k = false) : rulesOk xs = false := by
  have : rulesUp xs xs.length = false := by
    rw [rulesUp, List.all_eq_false]
    exact ⟨k, List.mem_range.2 hk, by rw [h]; simp⟩
  rw [rulesOk, this]; rfl

set_option maxHeartbeats 2000000 in
theorem l16Ok_any (A : Option Addr) (n c : Nat) (xs : List HeatRule) (w : World) (hA : HeatRuleS w A n xs) :
    Calls Tryz.prog 34 #[.slice A n c] w fun e w' => e = .returned (.bool (rulesOk xs)) ∧ Below w.heap.size w w' := by
  have hn := hA.bound
  go_enter Tryz.func34, Tryz.ntmps34
  go_wp2
  go_loopw [3] (fun i wr => ∃ k : Nat, k ≤ n ∧ i = .int .i64 k ∧ rulesUp xs k = true ∧ Below w.heap.size w wr) (fun i _ => n - (intOf i).toNat)
  case atStart => exact ⟨0, Nat.zero_le _, rfl, rfl, Below.refl _ _⟩
  case round =>
    obtain ⟨k, hk, rfl, hu, hbel⟩ := hrel
    have HU := Lib.hid hu; clear hu
    by_cases hlt : k < n
    · have hkl : k < xs.length := by rw [hA.len]; exact hlt
      obtain ⟨b, off, rfl, hb, hc⟩ := (hA.below hbel).cell (by omega)
      obtain ⟨hq0, hq1, hq2⟩ := hc k hlt
      have HC := Lib.hid hc; clear hc
      rcases Bool.eq_false_or_eq_true (inB (nt xs k).Upto 1 1300) with g1 | g1 <;> have G1 := Lib.hid g1 <;> clear g1
      · rcases Bool.eq_false_or_eq_true (inB (nt xs k).Rise 1 300) with g2 | g2 <;> have G2 := Lib.hid g2 <;> clear g2
        · rcases Bool.eq_false_or_eq_true (inB (nt xs k).Hold 0 48) with g3 | g3 <;> have G3 := Lib.hid g3 <;> clear g3
          · rcases k with _ | m
            · simp only [Nat.zero_mul, Nat.add_zero] at hq0 hq1 hq2
              have E := Lib.hid (show rulesUp xs (0 + 1) = true by rw [rulesUp_succ, HU.out, ruleB, G1.out, G2.out, G3.out]; simp)
              go_wp2
              go_quiet (first | (go_at_call 50; exact q_same (asB (in_any _ _ _ _) G1.out)) | (go_at_call 50; exact q_same (asB (in_any _ _ _ _) G2.out)) | (go_at_call 50; exact q_same (asB (in_any _ _ _ _) G3.out)))
              go_wp2
              go_roundw
              case rel => exact ⟨1, by omega, by go_num, E.out, bel_tr hbel (below_drewN (Below.refl _ _) _)⟩
              case measure => simp [intOf]; omega
            · obtain ⟨hp0, _, _⟩ := HC.out m (by omega)
              by_cases hge : (nt xs m).Upto < (nt xs (m + 1)).Upto
              · have E := Lib.hid (show rulesUp xs (m + 1 + 1) = true by rw [rulesUp_succ, HU.out, ruleB, G1.out, G2.out, G3.out]; simpa using hge)
                go_wp2
                go_quiet (first | (go_at_call 50; exact q_same (asB (in_any _ _ _ _) G1.out)) | (go_at_call 50; exact q_same (asB (in_any _ _ _ _) G2.out)) | (go_at_call 50; exact q_same (asB (in_any _ _ _ _) G3.out)))
                go_wp2
                go_roundw
                case rel => exact ⟨m + 1 + 1, by omega, by go_num, E.out, bel_tr hbel (below_drewN (Below.refl _ _) _)⟩
                case measure => simp [intOf]; omega
              · have E := Lib.hid (rulesOk_bad hkl (by rw [ruleB]; simp; intros; omega))
                go_wp2
                go_quiet (first | (go_at_call 50; exact q_same (asB (in_any _ _ _ _) G1.out)) | (go_at_call 50; exact q_same (asB (in_any _ _ _ _) G2.out)) | (go_at_call 50; exact q_same (asB (in_any _ _ _ _) G3.out)))
                go_wp2
                go_ret
                exact ⟨ret_bool E.out.symm, bel_tr hbel (below_drewN (Below.refl _ _) _)⟩
          · have E := Lib.hid (rulesOk_bad hkl (by rw [ruleB, G3.out]; simp))
            go_wp2
            go_quiet (first | (go_at_call 50; exact q_same (asB (in_any _ _ _ _) G1.out)) | (go_at_call 50; exact q_same (asB (in_any _ _ _ _) G2.out)) | (go_at_call 50; exact q_same (asB (in_any _ _ _ _) G3.out)))
            go_wp2
            go_ret
            exact ⟨ret_bool E.out.symm, bel_tr hbel (below_drewN (Below.refl _ _) _)⟩
        · have E := Lib.hid (rulesOk_bad hkl (by rw [ruleB, G2.out]; simp))
          go_wp2
          go_quiet (first | (go_at_call 50; exact q_same (asB (in_any _ _ _ _) G1.out)) | (go_at_call 50; exact q_same (asB (in_any _ _ _ _) G2.out)))
          go_wp2
          go_ret
          exact ⟨ret_bool E.out.symm, bel_tr hbel (below_drewN (Below.refl _ _) _)⟩
      · have E := Lib.hid (rulesOk_bad hkl (by rw [ruleB, G1.out]; simp))
        go_wp2
        go_quiet (first | (go_at_call 50; exact q_same (asB (in_any _ _ _ _) G1.out)))
        go_wp2
        go_ret
        exact ⟨ret_bool E.out.symm, bel_tr hbel (below_drewN (Below.refl _ _) _)⟩
    · obtain rfl : k = n := by omega
      have L := Lib.hid hA.len
      go_wp2_with (go_at_call 50; refine (in_any _ _ _ _).mono ?_; rintro e w' ⟨rfl, rfl⟩)
      go_ret
      exact ⟨ret_bool (by rw [rulesOk, L.out, HU.out]; rfl), hbel⟩

set_option maxHeartbeats 2000000 in
theorem implValidHeatRules_any (A : Option Addr) (n c : Nat) (xs : List HeatRule) (w : World) (hA : HeatRuleS w A n xs) :
    Calls Tryz.prog 23 #[.slice A n c] w fun e w' => e = .returned (.bool (rulesOk xs)) ∧ Below w.heap.size w w' := by
  have hn := hA.bound
  go_enter Tryz.func23, Tryz.ntmps23
  go_wp2
  go_loopw [7] (fun i wr => ∃ k : Nat, k ≤ n ∧ i = .int .i64 k ∧ rulesUp xs k = true ∧ Below w.heap.size w wr) (fun i _ => n - (intOf i).toNat)
  case atStart => exact ⟨0, Nat.zero_le _, rfl, rfl, Below.refl _ _⟩
  case round =>
    obtain ⟨k, hk, rfl, hu, hbel⟩ := hrel
    have HU := Lib.hid hu; clear hu
    by_cases hlt : k < n
    · have hkl : k < xs.length := by rw [hA.len]; exact hlt
      obtain ⟨b, off, rfl, hb, hc⟩ := (hA.below hbel).cell (by omega)
      obtain ⟨hq0, hq1, hq2⟩ := hc k hlt
      have HC := Lib.hid hc; clear hc
      rcases Bool.eq_false_or_eq_true (inB (nt xs k).Upto 1 1300) with g1 | g1 <;> have G1 := Lib.hid g1 <;> clear g1
      · rcases Bool.eq_false_or_eq_true (inB (nt xs k).Rise 1 300) with g2 | g2 <;> have G2 := Lib.hid g2 <;> clear g2
        · rcases Bool.eq_false_or_eq_true (inB (nt xs k).Hold 0 48) with g3 | g3 <;> have G3 := Lib.hid g3 <;> clear g3
          · rcases k with _ | m
            · simp only [Nat.zero_mul, Nat.add_zero] at hq0 hq1 hq2
              have E := Lib.hid (show rulesUp xs (0 + 1) = true by rw [rulesUp_succ, HU.out, ruleB, G1.out, G2.out, G3.out]; simp)
              go_wp2
              go_quiet (first | (go_at_call 26; exact q_same (asB (within_any _ _ _ _) G1.out)) | (go_at_call 26; exact q_same (asB (within_any _ _ _ _) G2.out)) | (go_at_call 26; exact q_same (asB (within_any _ _ _ _) G3.out)))
              go_wp2
              go_roundw
              case rel => exact ⟨1, by omega, by go_num, E.out, bel_tr hbel (below_drewN (by go_grown) _)⟩
              case measure => simp [intOf]; omega
            · obtain ⟨hp0, _, _⟩ := HC.out m (by omega)
              by_cases hge : (nt xs m).Upto < (nt xs (m + 1)).Upto
              · have E := Lib.hid (show rulesUp xs (m + 1 + 1) = true by rw [rulesUp_succ, HU.out, ruleB, G1.out, G2.out, G3.out]; simpa using hge)
                go_wp2
                go_quiet (first | (go_at_call 26; exact q_same (asB (within_any _ _ _ _) G1.out)) | (go_at_call 26; exact q_same (asB (within_any _ _ _ _) G2.out)) | (go_at_call 26; exact q_same (asB (within_any _ _ _ _) G3.out)))
                go_wp2
                go_roundw
                case rel => exact ⟨m + 1 + 1, by omega, by go_num, E.out, bel_tr hbel (below_drewN (by go_grown) _)⟩
                case measure => simp [intOf]; omega
              · have E := Lib.hid (rulesOk_bad hkl (by rw [ruleB]; simp; intros; omega))
                go_wp2
                go_quiet (first | (go_at_call 26; exact q_same (asB (within_any _ _ _ _) G1.out)) | (go_at_call 26; exact q_same (asB (within_any _ _ _ _) G2.out)) | (go_at_call 26; exact q_same (asB (within_any _ _ _ _) G3.out)))
                go_wp2
                go_ret
                exact ⟨ret_bool E.out.symm, bel_tr hbel (below_drewN (by go_grown) _)⟩
          · have E := Lib.hid (rulesOk_bad hkl (by rw [ruleB, G3.out]; simp))
            go_wp2
            go_quiet (first | (go_at_call 26; exact q_same (asB (within_any _ _ _ _) G1.out)) | (go_at_call 26; exact q_same (asB (within_any _ _ _ _) G2.out)) | (go_at_call 26; exact q_same (asB (within_any _ _ _ _) G3.out)))
            go_wp2
            go_ret
            exact ⟨ret_bool E.out.symm, bel_tr hbel (below_drewN (by go_grown) _)⟩
        · have E := Lib.hid (rulesOk_bad hkl (by rw [ruleB, G2.out]; simp))
          go_wp2
          go_quiet (first | (go_at_call 26; exact q_same (asB (within_any _ _ _ _) G1.out)) | (go_at_call 26; exact q_same (asB (within_any _ _ _ _) G2.out)))
          go_wp2
          go_ret
          exact ⟨ret_bool E.out.symm, bel_tr hbel (below_drewN (by go_grown) _)⟩
      · have E := Lib.hid (rulesOk_bad hkl (by rw [ruleB, G1.out]; simp))
        go_wp2
        go_quiet (first | (go_at_call 26; exact q_same (asB (within_any _ _ _ _) G1.out)))
        go_wp2
        go_ret
        exact ⟨ret_bool E.out.symm, bel_tr hbel (below_drewN (by go_grown) _)⟩
    · obtain rfl : k = n := by omega
      have L := Lib.hid hA.len
      go_wp2_with (go_at_call 26; refine (within_any _ _ _ _).mono ?_; rintro e w' ⟨rfl, rfl⟩)
      go_ret
      exact ⟨ret_bool (by rw [rulesOk, L.out, HU.out]; rfl), hbel⟩

theorem specValidHeatRules_any (A : Option Addr) (n c : Nat) (xs : List HeatRule) (w : World) (hA : HeatRuleS w A n xs) :
    Calls Tryz.prog 24 #[.slice A n c] w fun e w' => e = .returned (.bool (rulesOk xs)) ∧ Below w.heap.size w w' := by
  go_enter Tryz.func24, Tryz.ntmps24
  go_wp2_with (go_at_call 34; refine (l16Ok_any _ _ _ xs _ hA).mono ?_; rintro e w1 ⟨rfl, hb1⟩)
  go_ret
  exact ⟨rfl, hb1⟩
end Go.Proofs.YtoghgbbepjpelaaGreatDoor
