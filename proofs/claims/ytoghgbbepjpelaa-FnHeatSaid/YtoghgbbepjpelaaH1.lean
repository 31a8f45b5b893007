/- The contracts of the functions over degrees: the gates, HoursAbove, HeatWork, CoolingFault, FuelFor. -/
import Derived.Test.YtoghgbbepjpelaaCl
import Derived.Test.YtoghgbbepjpelaaTw
import Derived.Test.YtoghgbbepjpelaaHP
namespace Go.Proofs.Ytoghgbbepjpelaa
open Go.RowKit
set_option linter.unusedVariables false

theorem isFiring_any (A : Option Addr) (n c : Nat) (ds : List Int) (w : World) (hA : Ints w A n ds) :
    Calls Try.prog 50 #[.slice A n c] w fun e w' => e = .returned (.bool (firB ds)) ∧ Below w.heap.size w w' := by
  have hn := hA.bound
  have E := Lib.hid (show firB ds = (inB n 1 200 && allIn ds 0 1300) by rw [firB, hA.len])
  rcases Bool.eq_false_or_eq_true (inB n 1 200) with g | g
  · have G := Lib.hid g; clear g
    go_enter Try.func50, Try.ntmps50
    go_wp2_with (first | (go_at_call 51; refine (asB (within_any _ _ _ _) G.out).mono ?_; rintro e w' ⟨rfl, rfl⟩) | (go_at_call 81; refine (outside_any _ _ _ ds _ _ _ hA).mono ?_; rintro e w1 ⟨rfl, hb1⟩))
    go_ret
    exact ⟨ret_bool (by rw [E.out, G.out]; simp), hb1⟩
  · have G := Lib.hid g; clear g
    go_enter Try.func50, Try.ntmps50
    go_wp2_with (go_at_call 51; refine (asB (within_any _ _ _ _) G.out).mono ?_; rintro e w' ⟨rfl, rfl⟩)
    go_ret
    exact ⟨ret_bool (by rw [E.out, G.out]; simp), Below.refl _ _⟩

def degC (ds : List Int) : Int := if firB ds = true then 0 else 2
theorem degC_no {ds : List Int} (h : firB ds = false) : degC ds = 2 := by rw [degC, h]; rfl
theorem degC_ok {ds : List Int} (h : firB ds = true) : degC ds = 0 := by rw [degC, if_pos h]
theorem degrees_any (A : Option Addr) (n c : Nat) (ds : List Int) (w : World) (hA : Ints w A n ds) :
    Calls Try.prog 52 #[.slice A n c] w fun e w' => e = .returned (.int .i64 (degC ds)) ∧ w = w' := by
  have hn := hA.bound
  go_enter Try.func52, Try.ntmps52
  go_wp2
  go_loop [3] (fun i => ∃ k : Nat, k ≤ n ∧ i = .int .i64 k ∧ allIn (ds.take k) 0 1300 = true) (fun i => n - (intOf i).toNat)
  case atStart => exact ⟨0, Nat.zero_le _, rfl, rfl⟩
  case round =>
    obtain ⟨k, hk, rfl, hall⟩ := hrel
    have HA := Lib.hid hall; clear hall
    by_cases hlt : k < n
    · obtain ⟨b, off, rfl, hb, hc⟩ := hA.cell (by omega)
      have hck := hc k hlt
      have hlx : k < ds.length := by rw [hA.len]; exact hlt
      clear hc
      go_wp2_with (go_at_call 53; refine (in_any _ _ _ _).mono ?_; rintro e w' ⟨rfl, rfl⟩)
      · rename_i hf
        go_ret
        exact ⟨ret_int (degC_no (by rw [firB, allIn_false hlx (by simpa using hf)]; simp)).symm, rfl⟩
      · rename_i hf
        go_round
        case rel => exact ⟨k + 1, by omega, by go_num, by rw [allIn_take hlx, HA.out]; simpa using hf⟩
        case measure => simp [intOf]; omega
    · have hall : allIn ds 0 1300 = true := by
        have := HA.out; rwa [List.take_of_length_le (by rw [hA.len]; omega)] at this
      have E := Lib.hid (show firB ds = inB n 1 200 by rw [firB, hall, hA.len]; simp)
      clear hall
      rcases Bool.eq_false_or_eq_true (inB n 1 200) with g | g
      · have G := Lib.hid g; clear g
        go_wp2_with (go_at_call 53; refine (asB (in_any _ _ _ _) G.out).mono ?_; rintro e w' ⟨rfl, rfl⟩)
        go_ret
        exact ⟨ret_int (degC_ok (E.out.trans G.out)).symm, rfl⟩
      · have G := Lib.hid g; clear g
        go_wp2_with (go_at_call 53; refine (asB (in_any _ _ _ _) G.out).mono ?_; rintro e w' ⟨rfl, rfl⟩)
        go_ret
        exact ⟨ret_int (degC_no (E.out.trans G.out)).symm, rfl⟩
theorem degrees_ok {A : Option Addr} {n c : Nat} {ds : List Int} {w : World} (hA : Ints w A n ds) (g : firB ds = true) :
    Calls Try.prog 52 #[.slice A n c] w fun e w' => e = .returned (.int .i64 0) ∧ w = w' := by
  have := degrees_any A n c ds w hA; rwa [degC_ok g] at this
theorem degrees_no {A : Option Addr} {n c : Nat} {ds : List Int} {w : World} (hA : Ints w A n ds) (g : firB ds = false) :
    Calls Try.prog 52 #[.slice A n c] w fun e w' => e = .returned (.int .i64 2) ∧ w = w' := by
  have := degrees_any A n c ds w hA; rwa [degC_no g] at this

theorem l00Max_any (a b : Int) (w : World) :
    Calls Try.prog 54 #[.int .i64 a, .int .i64 b] w fun e w' => e = .returned (.int .i64 (max a b)) ∧ w = w' := by
  go_enter Try.func54, Try.ntmps54
  go_wp2
  all_goals (go_ret; exact ⟨ret_int (by omega), rfl⟩)

def hoursFv (ds : List Int) (x : Int) : Int := cntGe ds x ds.length
def hoursF (ds : List Int) (x : Int) : Int × Int := if (firB ds && inB x 0 1300) = true then (hoursFv ds x, 0) else (0, 2)
def workFv (ds : List Int) (x : Int) : Int := sumTo (heatAt ds x) ds.length
def workF (ds : List Int) (x : Int) : Int × Int := if (firB ds && inB x 0 1300) = true then (workFv ds x, 0) else (0, 2)
def coolFv (ds : List Int) (x : Int) : Int := coolF ds x
def coolG (ds : List Int) (x : Int) : Int × Int := if (firB ds && inB x 1 1300) = true then (coolFv ds x, 0) else (0, 2)

set_option maxHeartbeats 1000000 in
theorem specHoursAbove_any (A : Option Addr) (n c : Nat) (ds : List Int) (x : Int) (w : World) (hA : Ints w A n ds) :
    Calls Try.prog 9 #[.slice A n c, .int .i64 x] w (Two (hoursF ds x) w) := by
  have hn := hA.bound
  rcases Bool.eq_false_or_eq_true (firB ds) with g | g
  · rcases Bool.eq_false_or_eq_true (inB x 0 1300) with k | k
    · have E := Lib.hid (show hoursF ds x = (hoursFv ds x, 0) by rw [hoursF, g, k]; rfl)
      have hx := inB_true.1 k
      have hl := firB_parts g
      obtain ⟨hx0, hx1⟩ := hx
      obtain ⟨hl0, hl1, _⟩ := hl
      rw [hA.len] at hl0 hl1
      have L := Lib.hid hA.len
      have G := Lib.hid g; have K := Lib.hid k; clear g k
      go_enter Try.func9, Try.ntmps9
      go_wp2_with (first | (go_at_call 52; refine (degrees_ok hA G.out).mono ?_; rintro e w' ⟨rfl, rfl⟩) | (go_at_call 53; refine (asB (in_any _ _ _ _) K.out).mono ?_; rintro e w' ⟨rfl, rfl⟩))
      go_loop [7, 8] (fun s i => ∃ k : Nat, k ≤ n ∧ i = .int .i64 k ∧ s = .int .i64 (cntGe ds x k)) (fun _ i => n - (intOf i).toNat)
      case atStart => exact ⟨0, Nat.zero_le _, rfl, rfl⟩
      case round =>
        obtain ⟨k, hk, rfl, rfl⟩ := hrel
        have hcb := cntGe_bound ds x k
        by_cases hlt : k < n
        · obtain ⟨b, off, rfl, hb, hc⟩ := hA.cell (by omega)
          have hck := hc k hlt
          clear hc
          by_cases hq : x ≤ nth ds k
          · have Y := Lib.hid (cntGe_yes hq)
            go_wp2
            go_round
            case rel => exact ⟨k + 1, by omega, by go_num, by rw [Y.out]⟩
            case measure => simp [intOf]; omega
          · have Y := Lib.hid (cntGe_no hq)
            go_wp2
            go_round
            case rel => exact ⟨k + 1, by omega, by go_num, by rw [Y.out]⟩
            case measure => simp [intOf]; omega
        · obtain rfl : k = n := by omega
          go_wp2
          go_ret2
          exact Two.mk (by rw [E.out, hoursFv, L.out]) (Below.refl _ _)
    · have E := Lib.hid (show hoursF ds x = (0, 2) by rw [hoursF, g, k]; rfl)
      have G := Lib.hid g; have K := Lib.hid k; clear g k
      go_enter Try.func9, Try.ntmps9
      go_wp2_with (first | (go_at_call 52; refine (degrees_ok hA G.out).mono ?_; rintro e w' ⟨rfl, rfl⟩) | (go_at_call 53; refine (asB (in_any _ _ _ _) K.out).mono ?_; rintro e w' ⟨rfl, rfl⟩))
      go_ret2
      exact Two.mk E.out (Below.refl _ _)
  · have E := Lib.hid (show hoursF ds x = (0, 2) by rw [hoursF, g]; rfl)
    have G := Lib.hid g; clear g
    go_enter Try.func9, Try.ntmps9
    go_wp2_with (go_at_call 52; refine (degrees_no hA G.out).mono ?_; rintro e w' ⟨rfl, rfl⟩)
    go_ret2
    exact Two.mk E.out (Below.refl _ _)

set_option maxHeartbeats 1000000 in
theorem implHoursAbove_any (A : Option Addr) (n c : Nat) (ds : List Int) (x : Int) (w : World) (hA : Ints w A n ds) :
    Calls Try.prog 8 #[.slice A n c, .int .i64 x] w (Two (hoursF ds x) w) := by
  have hn := hA.bound
  rcases Bool.eq_false_or_eq_true (firB ds) with g | g
  · rcases Bool.eq_false_or_eq_true (inB x 0 1300) with k | k
    · have E := Lib.hid (show hoursF ds x = (hoursFv ds x, 0) by rw [hoursF, g, k]; rfl)
      have hx := inB_true.1 k
      have hl := firB_parts g
      obtain ⟨hx0, hx1⟩ := hx
      obtain ⟨hl0, hl1, _⟩ := hl
      rw [hA.len] at hl0 hl1
      have L := Lib.hid hA.len
      have G := Lib.hid g; have K := Lib.hid k; clear g k
      go_enter Try.func8, Try.ntmps8
      go_wp2_with fail
      refine (asB (isFiring_any _ _ _ ds _ hA) G.out).mono ?_; rintro e w0 ⟨rfl, hb0⟩
      go_wp2_with (go_at_call 51; refine (asB (within_any _ _ _ _) K.out).mono ?_; rintro e w' ⟨rfl, rfl⟩)
      have hA0 := hA; clear hA; have hA := hA0.below hb0; clear hA0
      go_loop [6, 19] (fun s i => ∃ k : Nat, k ≤ n ∧ i = .int .i64 k ∧ s = .int .i64 (cntGe ds x k)) (fun _ i => n - (intOf i).toNat)
      case atStart => exact ⟨0, Nat.zero_le _, rfl, rfl⟩
      case round =>
        obtain ⟨k, hk, rfl, rfl⟩ := hrel
        have hcb := cntGe_bound ds x k
        by_cases hlt : k < n
        · obtain ⟨b, off, rfl, hb, hc⟩ := hA.cell (by omega)
          have hck := hc k hlt
          clear hc
          by_cases hq : x ≤ nth ds k
          · have Y := Lib.hid (cntGe_yes hq)
            go_wp2
            go_round
            case rel => exact ⟨k + 1, by omega, by go_num, by rw [Y.out]⟩
            case measure => simp [intOf]; omega
          · have Y := Lib.hid (cntGe_no hq)
            go_wp2
            go_round
            case rel => exact ⟨k + 1, by omega, by go_num, by rw [Y.out]⟩
            case measure => simp [intOf]; omega
        · obtain rfl : k = n := by omega
          go_wp2
          go_ret2
          exact Two.mk (by rw [E.out, hoursFv, L.out]) (hb0)
    · have E := Lib.hid (show hoursF ds x = (0, 2) by rw [hoursF, g, k]; rfl)
      have G := Lib.hid g; have K := Lib.hid k; clear g k
      go_enter Try.func8, Try.ntmps8
      go_wp2_with fail
      refine (asB (isFiring_any _ _ _ ds _ hA) G.out).mono ?_; rintro e w0 ⟨rfl, hb0⟩
      go_wp2_with (go_at_call 51; refine (asB (within_any _ _ _ _) K.out).mono ?_; rintro e w' ⟨rfl, rfl⟩)
      go_ret2
      exact Two.mk E.out (hb0)
  · have E := Lib.hid (show hoursF ds x = (0, 2) by rw [hoursF, g]; rfl)
    have G := Lib.hid g; clear g
    go_enter Try.func8, Try.ntmps8
    go_wp2_with fail
    refine (asB (isFiring_any _ _ _ ds _ hA) G.out).mono ?_; rintro e w0 ⟨rfl, hb0⟩
    go_wp2_with fail
    go_ret2
    exact Two.mk E.out (hb0)

set_option maxHeartbeats 1000000 in
theorem specHeatWork_any (A : Option Addr) (n c : Nat) (ds : List Int) (x : Int) (w : World) (hA : Ints w A n ds) :
    Calls Try.prog 11 #[.slice A n c, .int .i64 x] w (Two (workF ds x) w) := by
  have hn := hA.bound
  rcases Bool.eq_false_or_eq_true (firB ds) with g | g
  · rcases Bool.eq_false_or_eq_true (inB x 0 1300) with k | k
    · have E := Lib.hid (show workF ds x = (workFv ds x, 0) by rw [workF, g, k]; rfl)
      have hx := inB_true.1 k
      have hl := firB_parts g
      obtain ⟨hx0, hx1⟩ := hx
      obtain ⟨hl0, hl1, _⟩ := hl
      rw [hA.len] at hl0 hl1
      have L := Lib.hid hA.len
      have G := Lib.hid g; have K := Lib.hid k; clear g k
      go_enter Try.func11, Try.ntmps11
      go_wp2_with (first | (go_at_call 52; refine (degrees_ok hA G.out).mono ?_; rintro e w' ⟨rfl, rfl⟩) | (go_at_call 53; refine (asB (in_any _ _ _ _) K.out).mono ?_; rintro e w' ⟨rfl, rfl⟩))
      have hs := sumTo_bound (f := heatAt ds x) (m := 1300) (n := n) (fun k hk => by have := firB_nth G.out (k := k) (by rw [L.out]; exact hk); unfold heatAt; omega)
      have HS := Lib.hid hs; clear hs
      go_loop [7, 8] (fun s i => ∃ k : Nat, k ≤ n ∧ i = .int .i64 k ∧ s = .int .i64 (sumTo (heatAt ds x) k)) (fun _ i => n - (intOf i).toNat)
      case atStart => exact ⟨0, Nat.zero_le _, rfl, rfl⟩
      case round =>
        obtain ⟨k, hk, rfl, rfl⟩ := hrel
        have hcb := HS.out k hk
        by_cases hlt : k < n
        · obtain ⟨b, off, rfl, hb, hc⟩ := hA.cell (by omega)
          have hck := hc k hlt
          have hbd := firB_nth G.out (k := k) (by rw [L.out]; exact hlt)
          clear hc
          have Y := Lib.hid (show sumTo (heatAt ds x) (k + 1) = sumTo (heatAt ds x) k + max (nth ds k - x) 0 from rfl)
          go_wp2_with (go_at_call 54; refine (l00Max_any _ _ _).mono ?_; rintro e w' ⟨rfl, rfl⟩)
          all_goals
            go_round
            case rel => exact ⟨k + 1, by omega, by go_num, by rw [Y.out]; congr 1; (try split) <;> omega⟩
            case measure => simp [intOf]; omega
        · obtain rfl : k = n := by omega
          go_wp2
          go_ret2
          exact Two.mk (by rw [E.out, workFv, L.out]) (Below.refl _ _)
    · have E := Lib.hid (show workF ds x = (0, 2) by rw [workF, g, k]; rfl)
      have G := Lib.hid g; have K := Lib.hid k; clear g k
      go_enter Try.func11, Try.ntmps11
      go_wp2_with (first | (go_at_call 52; refine (degrees_ok hA G.out).mono ?_; rintro e w' ⟨rfl, rfl⟩) | (go_at_call 53; refine (asB (in_any _ _ _ _) K.out).mono ?_; rintro e w' ⟨rfl, rfl⟩))
      go_ret2
      exact Two.mk E.out (Below.refl _ _)
  · have E := Lib.hid (show workF ds x = (0, 2) by rw [workF, g]; rfl)
    have G := Lib.hid g; clear g
    go_enter Try.func11, Try.ntmps11
    go_wp2_with (go_at_call 52; refine (degrees_no hA G.out).mono ?_; rintro e w' ⟨rfl, rfl⟩)
    go_ret2
    exact Two.mk E.out (Below.refl _ _)

set_option maxHeartbeats 1000000 in
theorem implHeatWork_any (A : Option Addr) (n c : Nat) (ds : List Int) (x : Int) (w : World) (hA : Ints w A n ds) :
    Calls Try.prog 10 #[.slice A n c, .int .i64 x] w (Two (workF ds x) w) := by
  have hn := hA.bound
  rcases Bool.eq_false_or_eq_true (firB ds) with g | g
  · rcases Bool.eq_false_or_eq_true (inB x 0 1300) with k | k
    · have E := Lib.hid (show workF ds x = (workFv ds x, 0) by rw [workF, g, k]; rfl)
      have hx := inB_true.1 k
      have hl := firB_parts g
      obtain ⟨hx0, hx1⟩ := hx
      obtain ⟨hl0, hl1, _⟩ := hl
      rw [hA.len] at hl0 hl1
      have L := Lib.hid hA.len
      have G := Lib.hid g; have K := Lib.hid k; clear g k
      go_enter Try.func10, Try.ntmps10
      go_wp2_with fail
      refine (asB (isFiring_any _ _ _ ds _ hA) G.out).mono ?_; rintro e w0 ⟨rfl, hb0⟩
      go_wp2_with (go_at_call 51; refine (asB (within_any _ _ _ _) K.out).mono ?_; rintro e w' ⟨rfl, rfl⟩)
      have hA0 := hA; clear hA; have hA := hA0.below hb0; clear hA0
      have hs := sumTo_bound (f := heatAt ds x) (m := 1300) (n := n) (fun k hk => by have := firB_nth G.out (k := k) (by rw [L.out]; exact hk); unfold heatAt; omega)
      have HS := Lib.hid hs; clear hs
      go_loop [6, 19] (fun s i => ∃ k : Nat, k ≤ n ∧ i = .int .i64 k ∧ s = .int .i64 (sumTo (heatAt ds x) k)) (fun _ i => n - (intOf i).toNat)
      case atStart => exact ⟨0, Nat.zero_le _, rfl, rfl⟩
      case round =>
        obtain ⟨k, hk, rfl, rfl⟩ := hrel
        have hcb := HS.out k hk
        by_cases hlt : k < n
        · obtain ⟨b, off, rfl, hb, hc⟩ := hA.cell (by omega)
          have hck := hc k hlt
          have hbd := firB_nth G.out (k := k) (by rw [L.out]; exact hlt)
          clear hc
          have Y := Lib.hid (show sumTo (heatAt ds x) (k + 1) = sumTo (heatAt ds x) k + max (nth ds k - x) 0 from rfl)
          go_wp2
          all_goals
            go_round
            case rel => exact ⟨k + 1, by omega, by go_num, by rw [Y.out]; congr 1; (try split) <;> omega⟩
            case measure => simp [intOf]; omega
        · obtain rfl : k = n := by omega
          go_wp2
          go_ret2
          exact Two.mk (by rw [E.out, workFv, L.out]) (hb0)
    · have E := Lib.hid (show workF ds x = (0, 2) by rw [workF, g, k]; rfl)
      have G := Lib.hid g; have K := Lib.hid k; clear g k
      go_enter Try.func10, Try.ntmps10
      go_wp2_with fail
      refine (asB (isFiring_any _ _ _ ds _ hA) G.out).mono ?_; rintro e w0 ⟨rfl, hb0⟩
      go_wp2_with (go_at_call 51; refine (asB (within_any _ _ _ _) K.out).mono ?_; rintro e w' ⟨rfl, rfl⟩)
      go_ret2
      exact Two.mk E.out (hb0)
  · have E := Lib.hid (show workF ds x = (0, 2) by rw [workF, g]; rfl)
    have G := Lib.hid g; clear g
    go_enter Try.func10, Try.ntmps10
    go_wp2_with fail
    refine (asB (isFiring_any _ _ _ ds _ hA) G.out).mono ?_; rintro e w0 ⟨rfl, hb0⟩
    go_wp2_with fail
    go_ret2
    exact Two.mk E.out (hb0)

set_option maxHeartbeats 1000000 in
theorem specCoolingFault_any (A : Option Addr) (n c : Nat) (ds : List Int) (x : Int) (w : World) (hA : Ints w A n ds) :
    Calls Try.prog 17 #[.slice A n c, .int .i64 x] w (Two (coolG ds x) w) := by
  have hn := hA.bound
  rcases Bool.eq_false_or_eq_true (firB ds) with g | g
  · rcases Bool.eq_false_or_eq_true (inB x 1 1300) with k | k
    · have E := Lib.hid (show coolG ds x = (coolFv ds x, 0) by rw [coolG, g, k]; rfl)
      have hx := inB_true.1 k
      have hl := firB_parts g
      obtain ⟨hx0, hx1⟩ := hx
      obtain ⟨hl0, hl1, _⟩ := hl
      rw [hA.len] at hl0 hl1
      have L := Lib.hid hA.len
      have G := Lib.hid g; have K := Lib.hid k; clear g k
      go_enter Try.func17, Try.ntmps17
      go_wp2_with (first | (go_at_call 52; refine (degrees_ok hA G.out).mono ?_; rintro e w' ⟨rfl, rfl⟩) | (go_at_call 53; refine (asB (in_any _ _ _ _) K.out).mono ?_; rintro e w' ⟨rfl, rfl⟩))
      go_loopw [7] (fun i wr => ∃ k : Nat, k + 1 ≤ n ∧ i = .int .i64 ((k : Int) + 1) ∧ (∀ j, j < k → coolP ds x j = false) ∧ ∃ q, wr = w.drewN q) (fun i _ => n + 1 - (intOf i).toNat)
      case atStart => exact ⟨0, by omega, rfl, fun j hj => absurd hj (by omega), 0, rfl⟩
      case round =>
        obtain ⟨k, hk, rfl, hno, q, rfl⟩ := hrel
        have HN := Lib.hid hno; clear hno
        by_cases hlt : k + 1 < n
        · obtain ⟨b, off, rfl, hb, hc⟩ := hA.cell (by omega)
          have hck := hc k (by omega)
          have hck1 := hc (k + 1) hlt
          have hbd := firB_nth G.out (k := k) (by rw [L.out]; omega)
          have hbd1 := firB_nth G.out (k := k + 1) (by rw [L.out]; exact hlt)
          have hi0 : (0 : Int) ≤ (k : Int) + 1 := by omega
          have hi1 : (k : Int) + 1 < (n : Int) := by omega
          clear hc
          go_wp2
          go_quiet (fail)
          go_wp2
          · rename_i hq
            have HQ := Lib.hid hq
            go_ret2
            exact Two.mk (by rw [E.out, coolFv, coolF_some (k := k) (by rw [L.out]; omega) (by simpa [coolP] using HQ.out) HN.out]) (below_drewN (below_drewN (Below.refl _ _) _) _)
          · rename_i hq
            have HQ := Lib.hid hq
            go_roundw
            case rel => exact ⟨k + 1, by omega, by go_num, fun j hj => by
              rcases Nat.lt_or_ge j k with h | h
              · exact HN.out j h
              · obtain rfl : j = k := by omega
                simpa [coolP] using HQ.out, _, rfl⟩
            case measure => simp [intOf]; omega
        · go_wp2
          go_ret2
          exact Two.mk (by rw [E.out, coolFv, coolF_none fun j hj => HN.out j (by rw [L.out] at hj; omega)]) (below_drewN (Below.refl _ _) _)
    · have E := Lib.hid (show coolG ds x = (0, 2) by rw [coolG, g, k]; rfl)
      have G := Lib.hid g; have K := Lib.hid k; clear g k
      go_enter Try.func17, Try.ntmps17
      go_wp2_with (first | (go_at_call 52; refine (degrees_ok hA G.out).mono ?_; rintro e w' ⟨rfl, rfl⟩) | (go_at_call 53; refine (asB (in_any _ _ _ _) K.out).mono ?_; rintro e w' ⟨rfl, rfl⟩))
      go_ret2
      exact Two.mk E.out (Below.refl _ _)
  · have E := Lib.hid (show coolG ds x = (0, 2) by rw [coolG, g]; rfl)
    have G := Lib.hid g; clear g
    go_enter Try.func17, Try.ntmps17
    go_wp2_with (go_at_call 52; refine (degrees_no hA G.out).mono ?_; rintro e w' ⟨rfl, rfl⟩)
    go_ret2
    exact Two.mk E.out (Below.refl _ _)

set_option maxHeartbeats 1000000 in
theorem implCoolingFault_any (A : Option Addr) (n c : Nat) (ds : List Int) (x : Int) (w : World) (hA : Ints w A n ds) :
    Calls Try.prog 16 #[.slice A n c, .int .i64 x] w (Two (coolG ds x) w) := by
  have hn := hA.bound
  rcases Bool.eq_false_or_eq_true (firB ds) with g | g
  · rcases Bool.eq_false_or_eq_true (inB x 1 1300) with k | k
    · have E := Lib.hid (show coolG ds x = (coolFv ds x, 0) by rw [coolG, g, k]; rfl)
      have hx := inB_true.1 k
      have hl := firB_parts g
      obtain ⟨hx0, hx1⟩ := hx
      obtain ⟨hl0, hl1, _⟩ := hl
      rw [hA.len] at hl0 hl1
      have L := Lib.hid hA.len
      have G := Lib.hid g; have K := Lib.hid k; clear g k
      go_enter Try.func16, Try.ntmps16
      go_wp2_with fail
      refine (asB (isFiring_any _ _ _ ds _ hA) G.out).mono ?_; rintro e w0 ⟨rfl, hb0⟩
      go_wp2_with (go_at_call 51; refine (asB (within_any _ _ _ _) K.out).mono ?_; rintro e w' ⟨rfl, rfl⟩)
      have hA0 := hA; clear hA; have hA := hA0.below hb0; clear hA0
      go_loopw [6] (fun i wr => ∃ k : Nat, k + 1 ≤ n ∧ i = .int .i64 ((k : Int) + 1) ∧ (∀ j, j < k → coolP ds x j = false) ∧ ∃ q, wr = w0.drewN q) (fun i _ => n + 1 - (intOf i).toNat)
      case atStart => exact ⟨0, by omega, rfl, fun j hj => absurd hj (by omega), 0, rfl⟩
      case round =>
        obtain ⟨k, hk, rfl, hno, q, rfl⟩ := hrel
        have HN := Lib.hid hno; clear hno
        by_cases hlt : k + 1 < n
        · obtain ⟨b, off, rfl, hb, hc⟩ := hA.cell (by omega)
          have hck := hc k (by omega)
          have hck1 := hc (k + 1) hlt
          have hbd := firB_nth G.out (k := k) (by rw [L.out]; omega)
          have hbd1 := firB_nth G.out (k := k + 1) (by rw [L.out]; exact hlt)
          have hi0 : (0 : Int) ≤ (k : Int) + 1 := by omega
          have hi1 : (k : Int) + 1 < (n : Int) := by omega
          clear hc
          go_wp2
          go_quiet (fail)
          go_wp2
          · rename_i hq
            have HQ := Lib.hid hq
            go_ret2
            exact Two.mk (by rw [E.out, coolFv, coolF_some (k := k) (by rw [L.out]; omega) (by simpa [coolP] using HQ.out) HN.out]) (below_drewN (below_drewN (hb0) _) _)
          · rename_i hq
            have HQ := Lib.hid hq
            go_roundw
            case rel => exact ⟨k + 1, by omega, by go_num, fun j hj => by
              rcases Nat.lt_or_ge j k with h | h
              · exact HN.out j h
              · obtain rfl : j = k := by omega
                simpa [coolP] using HQ.out, _, rfl⟩
            case measure => simp [intOf]; omega
        · go_wp2
          go_ret2
          exact Two.mk (by rw [E.out, coolFv, coolF_none fun j hj => HN.out j (by rw [L.out] at hj; omega)]) (below_drewN (hb0) _)
    · have E := Lib.hid (show coolG ds x = (0, 2) by rw [coolG, g, k]; rfl)
      have G := Lib.hid g; have K := Lib.hid k; clear g k
      go_enter Try.func16, Try.ntmps16
      go_wp2_with fail
      refine (asB (isFiring_any _ _ _ ds _ hA) G.out).mono ?_; rintro e w0 ⟨rfl, hb0⟩
      go_wp2_with (go_at_call 51; refine (asB (within_any _ _ _ _) K.out).mono ?_; rintro e w' ⟨rfl, rfl⟩)
      go_ret2
      exact Two.mk E.out (hb0)
  · have E := Lib.hid (show coolG ds x = (0, 2) by rw [coolG, g]; rfl)
    have G := Lib.hid g; clear g
    go_enter Try.func16, Try.ntmps16
    go_wp2_with fail
    refine (asB (isFiring_any _ _ _ ds _ hA) G.out).mono ?_; rintro e w0 ⟨rfl, hb0⟩
    go_wp2_with fail
    go_ret2
    exact Two.mk E.out (hb0)

/-- The fuel of a firing. -/
def fuelFv (ds : List Int) (x : Int) : Int := x * sumTo (riseAt ds) (ds.length - 1) + (x * sumTo (nth ds) (ds.length - 1) + 99) / 100
def fuelF (ds : List Int) (x : Int) : Int × Int := if (firB ds && inB x 1 1000) = true then (fuelFv ds x, 0) else (0, 2)
theorem roundedUp_any (a : Int) (w : World) (h0 : 0 ≤ a) (h1 : a ≤ 1000000000000) :
    Calls Try.prog 57 #[.int .i64 a, .int .i64 100] w fun e w' => e = .returned (.int .i64 ((a + 99) / 100)) ∧ w = w' := by
  go_enter Try.func57, Try.ntmps57
  go_wp2
  go_ret
  exact ⟨ret_int (by omega), rfl⟩
theorem mul_bd {x y m k : Int} (h0 : 0 ≤ x) (h1 : x ≤ m) (g0 : 0 ≤ y) (g1 : y ≤ k) (hm : 0 ≤ m) : 0 ≤ x * y ∧ x * y ≤ m * k :=
  ⟨Int.mul_nonneg h0 g0, Int.le_trans (Int.mul_le_mul_of_nonneg_right h1 g0) (Int.mul_le_mul_of_nonneg_left g1 hm)⟩

set_option maxHeartbeats 1000000 in
theorem implFuelFor_any (A : Option Addr) (n c : Nat) (ds : List Int) (x : Int) (w : World) (hA : Ints w A n ds) :
    Calls Try.prog 19 #[.slice A n c, .int .i64 x] w (Two (fuelF ds x) w) := by
  have hn := hA.bound
  rcases Bool.eq_false_or_eq_true (firB ds) with g | g
  · rcases Bool.eq_false_or_eq_true (inB x 1 1000) with k | k
    · have E := Lib.hid (show fuelF ds x = (fuelFv ds x, 0) by rw [fuelF, g, k]; rfl)
      have hx := inB_true.1 k
      have hl := firB_parts g
      obtain ⟨hx0, hx1⟩ := hx
      obtain ⟨hl0, hl1, _⟩ := hl
      rw [hA.len] at hl0 hl1
      have L := Lib.hid hA.len
      have G := Lib.hid g; have K := Lib.hid k; clear g k
      go_enter Try.func19, Try.ntmps19
      go_wp2_with fail
      refine (asB (isFiring_any _ _ _ ds _ hA) G.out).mono ?_; rintro e w0 ⟨rfl, hb0⟩
      go_wp2_with (go_at_call 51; refine (asB (within_any _ _ _ _) K.out).mono ?_; rintro e w' ⟨rfl, rfl⟩)
      have hA0 := hA; clear hA; have hA := hA0.below hb0; clear hA0
      have hs1 := sumTo_bound (f := riseAt ds) (m := 1300) (n := n - 1) (fun k hk => by have := firB_nth G.out (k := k) (by rw [L.out]; omega); have := firB_nth G.out (k := k + 1) (by rw [L.out]; omega); unfold riseAt; omega)
      have hs2 := sumTo_bound (f := nth ds) (m := 1300) (n := n) (fun k hk => firB_nth G.out (k := k) (by rw [L.out]; exact hk))
      have HS1 := Lib.hid hs1; have HS2 := Lib.hid hs2; clear hs1 hs2
      go_loopw [6, 7, 8] (fun a s i wr => ∃ k : Nat, k + 1 ≤ n ∧ i = .int .i64 ((k : Int) + 1) ∧ a = .int .i64 (sumTo (riseAt ds) k) ∧ s = .int .i64 (sumTo (nth ds) k) ∧ ∃ q, wr = w0.drewN q) (fun _ _ i _ => n + 1 - (intOf i).toNat)
      case atStart => exact ⟨0, by omega, rfl, rfl, rfl, 0, rfl⟩
      case round =>
        obtain ⟨k, hk, rfl, rfl, rfl, q, rfl⟩ := hrel
        have hb1 := HS1.out k (by omega)
        have hb2 := HS2.out k (by omega)
        by_cases hlt : k + 1 < n
        · obtain ⟨b, off, rfl, hb, hc⟩ := hA.cell (by omega)
          have hck := hc k (by omega)
          have hck1 := hc (k + 1) hlt
          have hbd := firB_nth G.out (k := k) (by rw [L.out]; omega)
          have hbd1 := firB_nth G.out (k := k + 1) (by rw [L.out]; exact hlt)
          have hi0 : (0 : Int) ≤ (k : Int) + 1 := by omega
          have hi1 : (k : Int) + 1 < (n : Int) := by omega
          have Y1 := Lib.hid (show sumTo (riseAt ds) (k + 1) = sumTo (riseAt ds) k + max (nth ds (k + 1) - nth ds k) 0 from rfl)
          have Y2 := Lib.hid (show sumTo (nth ds) (k + 1) = sumTo (nth ds) k + nth ds k from rfl)
          clear hc
          go_wp2
          go_quiet (fail)
          go_wp2
          all_goals
            go_roundw
            case rel => exact ⟨k + 1, by omega, by go_num, by rw [Y1.out]; congr 1; (try split) <;> omega, by rw [Y2.out], _, rfl⟩
            case measure => simp [intOf]; omega
        · obtain rfl : n = k + 1 := by omega
          have hm1 := mul_bd (x := x) (y := sumTo (riseAt ds) k) (m := 1000) (k := 1000000) (by omega) (by omega) (by omega) (by omega) (by omega)
          have hm2 := mul_bd (x := x) (y := sumTo (nth ds) k) (m := 1000) (k := 1000000) (by omega) (by omega) (by omega) (by omega) (by omega)
          have hc1 := Int.mul_comm x (sumTo (riseAt ds) k)
          have hc2 := Int.mul_comm x (sumTo (nth ds) k)
          have HC1 := Lib.hid hc1; have HC2 := Lib.hid hc2
          have hm3 : 0 ≤ sumTo (riseAt ds) k * x ∧ sumTo (riseAt ds) k * x ≤ 1000 * 1000000 := by rw [← hc1]; exact hm1
          have hm4 : 0 ≤ sumTo (nth ds) k * x ∧ sumTo (nth ds) k * x ≤ 1000 * 1000000 := by rw [← hc2]; exact hm2
          clear hc1 hc2
          go_wp2_with (go_at_call 57; refine (roundedUp_any _ _ (by omega) (by omega)).mono ?_; rintro e w' ⟨rfl, rfl⟩)
          go_ret2
          exact Two.mk (by rw [E.out, fuelFv, L.out]; rfl) (below_drewN (hb0) _)
    · have E := Lib.hid (show fuelF ds x = (0, 2) by rw [fuelF, g, k]; rfl)
      have G := Lib.hid g; have K := Lib.hid k; clear g k
      go_enter Try.func19, Try.ntmps19
      go_wp2_with fail
      refine (asB (isFiring_any _ _ _ ds _ hA) G.out).mono ?_; rintro e w0 ⟨rfl, hb0⟩
      go_wp2_with (go_at_call 51; refine (asB (within_any _ _ _ _) K.out).mono ?_; rintro e w' ⟨rfl, rfl⟩)
      go_ret2
      exact Two.mk E.out (hb0)
  · have E := Lib.hid (show fuelF ds x = (0, 2) by rw [fuelF, g]; rfl)
    have G := Lib.hid g; clear g
    go_enter Try.func19, Try.ntmps19
    go_wp2_with fail
    refine (asB (isFiring_any _ _ _ ds _ hA) G.out).mono ?_; rintro e w0 ⟨rfl, hb0⟩
    go_wp2_with fail
    go_ret2
    exact Two.mk E.out (hb0)

set_option maxHeartbeats 1000000 in
theorem specFuelFor_any (A : Option Addr) (n c : Nat) (ds : List Int) (x : Int) (w : World) (hA : Ints w A n ds) :
    Calls Try.prog 20 #[.slice A n c, .int .i64 x] w (Two (fuelF ds x) w) := by
  have hn := hA.bound
  rcases Bool.eq_false_or_eq_true (firB ds) with g | g
  · rcases Bool.eq_false_or_eq_true (inB x 1 1000) with k | k
    · have E := Lib.hid (show fuelF ds x = (fuelFv ds x, 0) by rw [fuelF, g, k]; rfl)
      have hx := inB_true.1 k
      have hl := firB_parts g
      obtain ⟨hx0, hx1⟩ := hx
      obtain ⟨hl0, hl1, _⟩ := hl
      rw [hA.len] at hl0 hl1
      have L := Lib.hid hA.len
      have G := Lib.hid g; have K := Lib.hid k; clear g k
      go_enter Try.func20, Try.ntmps20
      go_wp2_with (first | (go_at_call 52; refine (degrees_ok hA G.out).mono ?_; rintro e w' ⟨rfl, rfl⟩) | (go_at_call 53; refine (asB (in_any _ _ _ _) K.out).mono ?_; rintro e w' ⟨rfl, rfl⟩))
      have hs1 := sumTo_bound (f := riseAt ds) (m := 1300) (n := n - 1) (fun k hk => by have := firB_nth G.out (k := k) (by rw [L.out]; omega); have := firB_nth G.out (k := k + 1) (by rw [L.out]; omega); unfold riseAt; omega)
      have hs2 := sumTo_bound (f := nth ds) (m := 1300) (n := n) (fun k hk => firB_nth G.out (k := k) (by rw [L.out]; exact hk))
      have HS1 := Lib.hid hs1; have HS2 := Lib.hid hs2; clear hs1 hs2
      go_loopw [7, 8, 9] (fun a s i wr => ∃ k : Nat, k + 1 ≤ n ∧ i = .int .i64 ((k : Int) + 1) ∧ a = .int .i64 (sumTo (riseAt ds) k) ∧ s = .int .i64 (sumTo (nth ds) k) ∧ ∃ q, wr = w.drewN q) (fun _ _ i _ => n + 1 - (intOf i).toNat)
      case atStart => exact ⟨0, by omega, rfl, rfl, rfl, 0, rfl⟩
      case round =>
        obtain ⟨k, hk, rfl, rfl, rfl, q, rfl⟩ := hrel
        have hb1 := HS1.out k (by omega)
        have hb2 := HS2.out k (by omega)
        by_cases hlt : k + 1 < n
        · obtain ⟨b, off, rfl, hb, hc⟩ := hA.cell (by omega)
          have hck := hc k (by omega)
          have hck1 := hc (k + 1) hlt
          have hbd := firB_nth G.out (k := k) (by rw [L.out]; omega)
          have hbd1 := firB_nth G.out (k := k + 1) (by rw [L.out]; exact hlt)
          have hi0 : (0 : Int) ≤ (k : Int) + 1 := by omega
          have hi1 : (k : Int) + 1 < (n : Int) := by omega
          have Y1 := Lib.hid (show sumTo (riseAt ds) (k + 1) = sumTo (riseAt ds) k + max (nth ds (k + 1) - nth ds k) 0 from rfl)
          have Y2 := Lib.hid (show sumTo (nth ds) (k + 1) = sumTo (nth ds) k + nth ds k from rfl)
          clear hc
          go_wp2
          go_quiet (((go_at_call 54; exact q_more (l00Max_any _ _ _))))
          go_wp2
          all_goals
            go_roundw
            case rel => exact ⟨k + 1, by omega, by go_num, by rw [Y1.out]; congr 1; (try split) <;> omega, by rw [Y2.out], _, rfl⟩
            case measure => simp [intOf]; omega
        · obtain rfl : n = k + 1 := by omega
          have hm1 := mul_bd (x := x) (y := sumTo (riseAt ds) k) (m := 1000) (k := 1000000) (by omega) (by omega) (by omega) (by omega) (by omega)
          have hm2 := mul_bd (x := x) (y := sumTo (nth ds) k) (m := 1000) (k := 1000000) (by omega) (by omega) (by omega) (by omega) (by omega)
          have hc1 := Int.mul_comm x (sumTo (riseAt ds) k)
          have hc2 := Int.mul_comm x (sumTo (nth ds) k)
          have HC1 := Lib.hid hc1; have HC2 := Lib.hid hc2
          have hm3 : 0 ≤ sumTo (riseAt ds) k * x ∧ sumTo (riseAt ds) k * x ≤ 1000 * 1000000 := by rw [← hc1]; exact hm1
          have hm4 : 0 ≤ sumTo (nth ds) k * x ∧ sumTo (nth ds) k * x ≤ 1000 * 1000000 := by rw [← hc2]; exact hm2
          clear hc1 hc2
          go_wp2
          go_ret2
          exact Two.mk (by rw [E.out, fuelFv, L.out, Nat.add_sub_cancel, HC1.out, HC2.out]) (below_drewN (Below.refl _ _) _)
    · have E := Lib.hid (show fuelF ds x = (0, 2) by rw [fuelF, g, k]; rfl)
      have G := Lib.hid g; have K := Lib.hid k; clear g k
      go_enter Try.func20, Try.ntmps20
      go_wp2_with (first | (go_at_call 52; refine (degrees_ok hA G.out).mono ?_; rintro e w' ⟨rfl, rfl⟩) | (go_at_call 53; refine (asB (in_any _ _ _ _) K.out).mono ?_; rintro e w' ⟨rfl, rfl⟩))
      go_ret2
      exact Two.mk E.out (Below.refl _ _)
  · have E := Lib.hid (show fuelF ds x = (0, 2) by rw [fuelF, g]; rfl)
    have G := Lib.hid g; clear g
    go_enter Try.func20, Try.ntmps20
    go_wp2_with (go_at_call 52; refine (degrees_no hA G.out).mono ?_; rintro e w' ⟨rfl, rfl⟩)
    go_ret2
    exact Two.mk E.out (Below.refl _ _)
end Go.Proofs.Ytoghgbbepjpelaa
