/- The contracts of the functions over degrees: the gates, HoursAbove, HeatWork, CoolingFault, FuelFor. -/
import Derived.Test.YtoghgbbepjpelaaGreatDoorCl
import Derived.Test.YtoghgbbepjpelaaGreatDoorTw
import Derived.Test.YtoghgbbepjpelaaGreatDoorHP
namespace Go.Proofs.YtoghgbbepjpelaaGreatDoor
open Go.RowKit
set_option linter.unusedVariables false

theorem isFiring_any (A : Option Addr) (n c : Nat) (ds : List Int) (w : World) (hA : Ints w A n ds) :
    Calls Tryz.prog 32 #[.slice A n c] w fun e w' => e = .returned (.bool (firB ds)) ∧ Below w.heap.size w w' := by
  have hn := hA.bound
  have E := Lib.hid (show firB ds = (inB n 1 200 && allIn ds 0 1300) by rw [firB, hA.len])
  rcases Bool.eq_false_or_eq_true (inB n 1 200) with g | g
  · have G := Lib.hid g; clear g
    go_enter Tryz.func32, Tryz.ntmps32
    go_wp2_with (first | (go_at_call 26; refine (asB (within_any _ _ _ _) G.out).mono ?_; rintro e w' ⟨rfl, rfl⟩) | (go_at_call 53; refine (outside_any _ _ _ ds _ _ _ hA).mono ?_; rintro e w1 ⟨rfl, hb1⟩))
    go_ret
    exact ⟨ret_bool (by rw [E.out, G.out]; simp), hb1⟩
  · have G := Lib.hid g; clear g
    go_enter Tryz.func32, Tryz.ntmps32
    go_wp2_with (go_at_call 26; refine (asB (within_any _ _ _ _) G.out).mono ?_; rintro e w' ⟨rfl, rfl⟩)
    go_ret
    exact ⟨ret_bool (by rw [E.out, G.out]; simp), Below.refl _ _⟩

def degC (ds : List Int) : Int := if firB ds = true then 0 else 2
theorem degC_no {ds : List Int} (h : firB ds = false) : degC ds = 2 := by rw [degC, h]; rfl
theorem degC_ok {ds : List Int} (h : firB ds = true) : degC ds = 0 := by rw [degC, if_pos h]
theorem degrees_any (A : Option Addr) (n c : Nat) (ds : List Int) (w : World) (hA : Ints w A n ds) :
    Calls Tryz.prog 35 #[.slice A n c] w fun e w' => e = .returned (.int .i64 (degC ds)) ∧ w = w' := by
  have hn := hA.bound
  go_enter Tryz.func35, Tryz.ntmps35
  go_wp2
  go_loop [3] (fun i => ∃ k : Nat, k ≤ n ∧ i = .int .i64 k ∧ allIn (ds.take k) 0 1300 = true) (fun i => n - (intOf i).toNat)
  case atStart => exact ⟨0, Nat.zero_le _, rfl, rfl⟩
  case round =>
    obtain ⟨k, hk, rfl, hall⟩ := hrel
    have HA := Lib.hid hall; clear hall
    by_cases hlt : k < n
    · obtain ⟨b, off, rfl, hb, hc⟩ := hA.cell (by omega)
      have hck := hc k hlt
      have hlx : k < ds.length := by rw [hA.len]; exact hlt
      clear hc
      go_wp2_with (go_at_call 50; refine (in_any _ _ _ _).mono ?_; rintro e w' ⟨rfl, rfl⟩)
      · rename_i hf
        go_ret
        exact ⟨ret_int (degC_no (by rw [firB, allIn_false hlx (by simpa using hf)]; simp)).symm, rfl⟩
      · rename_i hf
        go_round
        case rel => exact ⟨k + 1, by omega, by go_num, by rw [allIn_take hlx, HA.out]; simpa using hf⟩
        case measure => simp [intOf]; omega
    · have hall : allIn ds 0 1300 = true := by
        have := HA.out; rwa [List.take_of_length_le (by rw [hA.len]; omega)] at this
      have E := Lib.hid (show firB ds = inB n 1 200 by rw [firB, hall, hA.len]; simp)
      clear hall
      rcases Bool.eq_false_or_eq_true (inB n 1 200) with g | g
      · have G := Lib.hid g; clear g
        go_wp2_with (go_at_call 50; refine (asB (in_any _ _ _ _) G.out).mono ?_; rintro e w' ⟨rfl, rfl⟩)
        go_ret
        exact ⟨ret_int (degC_ok (E.out.trans G.out)).symm, rfl⟩
      · have G := Lib.hid g; clear g
        go_wp2_with (go_at_call 50; refine (asB (in_any _ _ _ _) G.out).mono ?_; rintro e w' ⟨rfl, rfl⟩)
        go_ret
        exact ⟨ret_int (degC_no (E.out.trans G.out)).symm, rfl⟩
theorem degrees_ok {A : Option Addr} {n c : Nat} {ds : List Int} {w : World} (hA : Ints w A n ds) (g : firB ds = true) :
    Calls Tryz.prog 35 #[.slice A n c] w fun e w' => e = .returned (.int .i64 0) ∧ w = w' := by
  have := degrees_any A n c ds w hA; rwa [degC_ok g] at this
theorem degrees_no {A : Option Addr} {n c : Nat} {ds : List Int} {w : World} (hA : Ints w A n ds) (g : firB ds = false) :
    Calls Tryz.prog 35 #[.slice A n c] w fun e w' => e = .returned (.int .i64 2) ∧ w = w' := by
  have := degrees_any A n c ds w hA; rwa [degC_no g] at this


def hoursFv (ds : List Int) (x : Int) : Int := cntGe ds x ds.length
def hoursF (ds : List Int) (x : Int) : Int × Int := if (firB ds && inB x 0 1300) = true then (hoursFv ds x, 0) else (0, 2)
def workFv (ds : List Int) (x : Int) : Int := sumTo (heatAt ds x) ds.length
def workF (ds : List Int) (x : Int) : Int × Int := if (firB ds && inB x 0 1300) = true then (workFv ds x, 0) else (0, 2)
def coolFv (ds : List Int) (x : Int) : Int := coolF ds x
def coolG (ds : List Int) (x : Int) : Int × Int := if (firB ds && inB x 1 1300) = true then (coolFv ds x, 0) else (0, 2)

/-- The fuel of a firing. -/
def fuelFv (ds : List Int) (x : Int) : Int := x * sumTo (riseAt ds) (ds.length - 1) + (x * sumTo (nth ds) (ds.length - 1) + 99) / 100
def fuelF (ds : List Int) (x : Int) : Int × Int := if (firB ds && inB x 1 1000) = true then (fuelFv ds x, 0) else (0, 2)
theorem mul_bd {x y m k : Int} (h0 : 0 ≤ x) (h1 : x ≤ m) (g0 : 0 ≤ y) (g1 : y ≤ k) (hm : 0 ≤ m) : 0 ≤ x * y ∧ x * y ≤ m * k :=
  ⟨Int.mul_nonneg h0 g0, Int.le_trans (Int.mul_le_mul_of_nonneg_right h1 g0) (Int.mul_le_mul_of_nonneg_left g1 hm)⟩

end Go.Proofs.YtoghgbbepjpelaaGreatDoor
