/- The contract of impl.outside: a closure that is handed to slices.ContainsFunc. -/
import Derived.Test.YtoghgbbepjpelaaGreatDoorSm
namespace Go.Proofs.YtoghgbbepjpelaaGreatDoor
open Go.RowKit
set_option linter.unusedVariables false

theorem outsideFn_any (n lo hi : Int) (b1 b2 : Nat) (w : World) (h1 : w.cell? ⟨b1, 0, none⟩ = some (.int .i64 lo)) (h2 : w.cell? ⟨b2, 0, none⟩ = some (.int .i64 hi)) :
    Calls Tryz.prog 67 #[.int .i64 n, .pointer (some ⟨b1, 0, none⟩), .pointer (some ⟨b2, 0, none⟩)] w fun e w' => e = .returned (.bool (!inB n lo hi)) ∧ w = w' := by
  go_enter Tryz.func67, Tryz.ntmps67
  go_wp2_with (go_at_call 26; refine (within_any _ _ _ _).mono ?_; rintro e w' ⟨rfl, rfl⟩)
  go_ret
  exact ⟨rfl, rfl⟩

def IsIdx (P : Int → Prop) (w : World) (e : Ending) (w' : World) : Prop := ∃ r : Int, e = .returned (.int .i64 r) ∧ P r ∧ w = w'
theorem indexOutside_any (A : Option Addr) (n c : Nat) (xs : List Int) (lo hi : Int) (b1 b2 : Nat) (w : World) (hA : Ints w A n xs)
    (h1 : w.cell? ⟨b1, 0, none⟩ = some (.int .i64 lo)) (h2 : w.cell? ⟨b2, 0, none⟩ = some (.int .i64 hi)) :
    Calls Tryz.prog 78 #[.slice A n c, .func (.func 67) #[] #[.pointer (some ⟨b1, 0, none⟩), .pointer (some ⟨b2, 0, none⟩)]] w
      (IsIdx (fun r => decide (0 ≤ r) = !allIn xs lo hi) w) := by
  have hn := hA.bound
  go_enter Tryz.func78, Tryz.ntmps78
  go_wp2
  go_loop [8] (fun i => ∃ k : Nat, k ≤ n ∧ i = .int .i64 k ∧ allIn (xs.take k) lo hi = true) (fun i => n - (intOf i).toNat)
  case atStart => exact ⟨0, Nat.zero_le _, rfl, rfl⟩
  case round =>
    obtain ⟨k, hk, rfl, hall⟩ := hrel
    have HA := Lib.hid hall; clear hall
    by_cases hlt : k < n
    · obtain ⟨b, off, rfl, hb, hc⟩ := hA.cell (by omega)
      have hck := hc k hlt
      have hlx : k < xs.length := by rw [hA.len]; exact hlt
      clear hc
      go_wp2_with (go_at_call 67; refine (outsideFn_any _ _ _ _ _ _ h1 h2).mono ?_; rintro e w' ⟨rfl, rfl⟩)
      · rename_i hf
        go_ret
        exact ⟨_, rfl, by rw [allIn_false hlx (by simpa using hf)]; simp, rfl⟩
      · rename_i hf
        go_round
        case rel => exact ⟨k + 1, by omega, by go_num, by rw [allIn_take hlx, HA.out]; simpa using hf⟩
        case measure => simp [intOf]; omega
    · go_wp2
      go_ret
      exact ⟨_, rfl, by
        have := HA.out; rw [List.take_of_length_le (by rw [hA.len]; omega)] at this
        rw [this]; rfl, rfl⟩
theorem containsOutside_any (A : Option Addr) (n c : Nat) (xs : List Int) (lo hi : Int) (b1 b2 : Nat) (w : World) (hA : Ints w A n xs)
    (h1 : w.cell? ⟨b1, 0, none⟩ = some (.int .i64 lo)) (h2 : w.cell? ⟨b2, 0, none⟩ = some (.int .i64 hi)) :
    Calls Tryz.prog 66 #[.slice A n c, .func (.func 67) #[] #[.pointer (some ⟨b1, 0, none⟩), .pointer (some ⟨b2, 0, none⟩)]] w
      fun e w' => e = .returned (.bool (!allIn xs lo hi)) ∧ w = w' := by
  go_enter Tryz.func66, Tryz.ntmps66
  go_wp2_with (go_at_call 78; refine (indexOutside_any _ _ _ _ lo hi _ _ _ hA h1 h2).mono ?_; rintro e w' ⟨r, rfl, hr, rfl⟩)
  go_ret
  exact ⟨ret_bool (by rw [← hr]), rfl⟩

theorem outside_any (A : Option Addr) (n c : Nat) (xs : List Int) (lo hi : Int) (w : World) (hA : Ints w A n xs) :
    Calls Tryz.prog 53 #[.slice A n c, .int .i64 lo, .int .i64 hi] w fun e w' => e = .returned (.bool (!allIn xs lo hi)) ∧ Below w.heap.size w w' := by
  go_enter Tryz.func53, Tryz.ntmps53
  go_wp2_with (go_at_call 66; refine (containsOutside_any _ _ _ _ lo hi _ _ _ ((hA.alloc _).alloc _) (by go_simp) (by go_simp)).mono ?_; rintro e w' ⟨rfl, rfl⟩)
  go_ret
  exact ⟨rfl, ((Below.refl _ _).alloc (Nat.le_refl _) _).alloc (by simp) _⟩
end Go.Proofs.YtoghgbbepjpelaaGreatDoor
