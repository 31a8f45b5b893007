/- The contracts of the two ways to lowest terms: gcd, lowest, l02Gcd, l02Size, l02Make, for numbers that are not negative. -/
import Derived.Test.YtnibggkjgpgljaaRows
import Derived.Test.YtnibggkjgpgljaaRc
namespace Go.Proofs.Ytnibggkjgpgljaa
open Go.RowKit
set_option linter.unusedVariables false

theorem tmod_nat (x y : Nat) : Int.tmod (x : Int) (y : Int) = ((x % y : Nat) : Int) := by simp [Int.tmod]
theorem gcd_step (x y : Nat) : Nat.gcd y (x % y) = Nat.gcd x y := by rw [Nat.gcd_comm x y, Nat.gcd_rec y x, Nat.gcd_comm]

theorem l02Gcd_any (a b : Nat) (w : World) (ha : (a : Int) ≤ 9223372036854775807) (hb : (b : Int) ≤ 9223372036854775807) :
    Calls Try.prog 86 #[.int .i64 a, .int .i64 b] w fun e w' => e = .returned (.int .i64 ((Nat.gcd a b : Nat) : Int)) ∧ w = w' := by
  go_enter Try.func86, Try.ntmps86
  go_wp2
  go_loop [0, 1] (fun u v => ∃ x y : Nat, u = .int .i64 x ∧ v = .int .i64 y ∧ Nat.gcd x y = Nat.gcd a b ∧ (x : Int) ≤ 9223372036854775807 ∧ (y : Int) ≤ 9223372036854775807) (fun _ v => (intOf v).toNat)
  case atStart => exact ⟨a, b, rfl, rfl, rfl, ha, hb⟩
  case round =>
    obtain ⟨x, y, rfl, rfl, hg, hx, hy⟩ := hrel
    have HG := Lib.hid hg; clear hg
    by_cases h0 : y = 0
    · subst h0
      go_wp2
      go_ret
      exact ⟨ret_int (by rw [← HG.out]; simp), rfl⟩
    · have hne : ((y : Int) != 0) = true := by simpa using h0
      have hp : (0 : Int) < y := by omega
      have hlt : x % y < y := Nat.mod_lt _ (by omega)
      have M := Lib.hid (tmod_nat x y)
      go_wp2
      go_round
      case rel => exact ⟨y, x % y, rfl, by first | rw [M.out] | simp, (gcd_step x y).trans HG.out, hy, by omega⟩
      case measure => simp [intOf]; omega

theorem gcd_any (a b : Nat) (w : World) (ha : (a : Int) ≤ 9223372036854775807) (hb : (b : Int) ≤ 9223372036854775807) :
    Calls Try.prog 88 #[.int .i64 a, .int .i64 b] w fun e w' => e = .returned (.int .i64 ((Nat.gcd a b : Nat) : Int)) ∧ Below w.heap.size w w' := by
  go_enter Try.func88, Try.ntmps88
  go_wp2
  go_loopw [0, 1] (fun u v wr => ∃ x y : Nat, u = .int .i64 x ∧ v = .int .i64 y ∧ Nat.gcd x y = Nat.gcd a b ∧ (x : Int) ≤ 9223372036854775807 ∧ (y : Int) ≤ 9223372036854775807 ∧ Below w.heap.size w wr) (fun _ v _ => (intOf v).toNat)
  case atStart => exact ⟨a, b, rfl, rfl, rfl, ha, hb, Below.refl _ _⟩
  case round =>
    obtain ⟨x, y, rfl, rfl, hg, hx, hy, hbel⟩ := hrel
    have HG := Lib.hid hg; clear hg
    by_cases h0 : y = 0
    · subst h0
      go_wp2
      go_ret
      exact ⟨ret_int (by rw [← HG.out]; simp; try omega), hbel⟩
    · have hne : ((y : Int) != 0) = true := by simpa using h0
      have hp : (0 : Int) < y := by omega
      have hlt : x % y < y := Nat.mod_lt _ (by omega)
      have M := Lib.hid (tmod_nat x y)
      go_wp2
      go_quiet (fail)
      go_wp2
      go_roundw
      case rel => exact ⟨y, x % y, rfl, by first | rw [M.out] | simp, (gcd_step x y).trans HG.out, hy, by omega, bel_tr hbel (below_drewN (Below.refl _ _) _)⟩
      case measure => simp [intOf]; omega

theorem gcd_pos' {a b : Nat} (hb : 1 ≤ b) : 1 ≤ Nat.gcd a b := Nat.gcd_pos_of_pos_right _ (by omega)
theorem quot_facts (a : Nat) {g : Nat} (hg : 1 ≤ g) : (0 : Int) ≤ (a : Int) / (g : Int) ∧ (a : Int) / (g : Int) ≤ a := by
  rw [← Int.natCast_ediv]
  exact ⟨Int.natCast_nonneg _, Int.ofNat_le.2 (Nat.div_le_self a g)⟩
/-- A fraction in lowest terms. -/
def lowN (a b : Nat) : Int := (a : Int) / ((Nat.gcd a b : Nat) : Int)
def lowD (a b : Nat) : Int := (b : Int) / ((Nat.gcd a b : Nat) : Int)

theorem size_any (a : Nat) (w : World) : Calls Try.prog 87 #[.int .i64 a] w fun e w' => e = .returned (.int .i64 (a : Int)) ∧ w = w' := by
  have h : ¬ (a : Int) < 0 := by omega
  go_enter Try.func87, Try.ntmps87
  go_wp2
  go_ret
  exact ⟨rfl, rfl⟩

set_option maxHeartbeats 1000000 in
theorem l02Make_any (a b : Nat) (w : World) (ha : (a : Int) ≤ 9223372036854775807) (hb : (b : Int) ≤ 9223372036854775807) (h1 : 1 ≤ b) :
    Calls Try.prog 65 #[.int .i64 a, .int .i64 b] w fun e w' => e = .returned (.agg #[.int .i64 (lowN a b), .int .i64 (lowD a b)]) ∧ Below w.heap.size w w' := by
  have hg := gcd_pos' (a := a) h1
  obtain ⟨qa0, qa1⟩ := quot_facts a hg
  obtain ⟨qb0, qb1⟩ := quot_facts b hg
  have hg0 : (0 : Int) < ((Nat.gcd a b : Nat) : Int) := by omega
  have hgb : ((Nat.gcd a b : Nat) : Int) ≤ 9223372036854775807 := by have := Nat.gcd_le_right a (show 0 < b by omega); omega
  have e1 : wrap64 ((a : Int) / ((Nat.gcd a b : Nat) : Int)) = (a : Int) / ((Nat.gcd a b : Nat) : Int) := IntWalk.wrap64_in _ (by omega)
  have e2 : wrap64 ((b : Int) / ((Nat.gcd a b : Nat) : Int)) = (b : Int) / ((Nat.gcd a b : Nat) : Int) := IntWalk.wrap64_in _ (by omega)
  go_enter Try.func65, Try.ntmps65
  go_wp2_with fail
  refine (size_any _ _).mono ?_; rintro e w' ⟨rfl, rfl⟩
  go_wp2_with fail
  refine (l02Gcd_any a b _ ha hb).mono ?_; rintro e w' ⟨rfl, rfl⟩
  go_wp2_with fail
  first | go_region | fail
  all_goals
    go_wp2
    refine bodyPost_ret (v := .agg #[.int .i64 (lowN a b), .int .i64 (lowD a b)]) (by simp [results, Try.results65, go_sem, lowN, lowD]) rfl ⟨rfl, ?_⟩
    go_grown
set_option maxHeartbeats 1000000 in
theorem lowest_any (a b : Nat) (w : World) (ha : (a : Int) ≤ 9223372036854775807) (hb : (b : Int) ≤ 9223372036854775807) (h1 : 1 ≤ b) :
    Calls Try.prog 67 #[.int .i64 a, .int .i64 b] w fun e w' => e = .returned (.agg #[.int .i64 (lowN a b), .int .i64 (lowD a b)]) ∧ Below w.heap.size w w' := by
  have hg := gcd_pos' (a := a) h1
  obtain ⟨qa0, qa1⟩ := quot_facts a hg
  obtain ⟨qb0, qb1⟩ := quot_facts b hg
  have hg0 : (0 : Int) < ((Nat.gcd a b : Nat) : Int) := by omega
  have hgb : ((Nat.gcd a b : Nat) : Int) ≤ 9223372036854775807 := by have := Nat.gcd_le_right a (show 0 < b by omega); omega
  have e1 : wrap64 ((a : Int) / ((Nat.gcd a b : Nat) : Int)) = (a : Int) / ((Nat.gcd a b : Nat) : Int) := IntWalk.wrap64_in _ (by omega)
  have e2 : wrap64 ((b : Int) / ((Nat.gcd a b : Nat) : Int)) = (b : Int) / ((Nat.gcd a b : Nat) : Int) := IntWalk.wrap64_in _ (by omega)
  go_enter Try.func67, Try.ntmps67
  go_wp2_with fail
  refine (gcd_any a b _ ha hb).mono ?_; rintro e w1 ⟨rfl, hb1⟩
  obtain ⟨hc1, hf1⟩ := bcell hb1
  have hz1 := hb1.size
  simp only [World.size_alloc] at hz1
  go_wp2_with fail
  first | go_region | fail
  all_goals
    go_wp2
    refine bodyPost_ret (v := .agg #[.int .i64 (lowN a b), .int .i64 (lowD a b)]) (by simp [results, Try.results67, go_sem, hc1, lowN, lowD]) rfl ⟨rfl, ?_⟩
    have H0 : Below w.heap.size w w1 := bel_tr (by go_grown) hb1
    have H1 := (H0.setCell (p := ⟨w.heap.size, 0, none⟩) (Nat.le_refl _) (.int .i64 ((a : Int) / ((Nat.gcd a b : Nat) : Int)))).setCell (p := ⟨w.heap.size, 1, none⟩) (Nat.le_refl _) (.int .i64 ((b : Int) / ((Nat.gcd a b : Nat) : Int)))
    exact ⟨H1.os, H1.tape, H1.output, H1.size, H1.block⟩
end Go.Proofs.Ytnibggkjgpgljaa
