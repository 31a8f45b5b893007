/- The contracts of PassChance, the reference's and the program's. -/
import Derived.Test.YtnibggkjgpgljaaT3
namespace Go.Proofs.Ytnibggkjgpgljaa
open Go.RowKit
set_option linter.unusedVariables false

/-- The product behind i rounds, as both ways to choose reckon it. -/
def chP (n k : Nat) : Nat → Nat
  | 0 => 1
  | i + 1 => chP n k i * (n - k + (i + 1)) / (i + 1)
def chooseN (n k : Nat) : Nat := if n < k then 0 else chP n k k
/-- What no choice of k of at most 60 things is above. -/
def chTop (k : Nat) : Nat := [1, 60, 1770, 34220, 487635, 5461512, 50063860, 386206920, 2558620845, 14783142660, 75394027566].getD k 0
theorem ch_table : ((List.range 61).all fun n => (List.range 11).all fun k => (decide (n < k) || (decide (1 ≤ chP n k k) && decide (chP n k k ≤ chTop k))) && (List.range 11).all fun i => decide (chP n k i * (n - k + (i + 1)) ≤ 9223372036854775807)) = true := by decide +kernel
theorem top_table : ((List.range 11).all fun i => (List.range 11).all fun j => decide (10 < i + j) || decide (chTop i * chTop j ≤ 30000000000000)) = true := by decide +kernel
theorem ch_at {n k : Nat} (hn : n ≤ 60) (hk : k ≤ 10) : ((decide (n < k) || (decide (1 ≤ chP n k k) && decide (chP n k k ≤ chTop k))) && (List.range 11).all fun i => decide (chP n k i * (n - k + (i + 1)) ≤ 9223372036854775807)) = true :=
  List.all_eq_true.1 (List.all_eq_true.1 ch_table n (List.mem_range.2 (by omega))) k (List.mem_range.2 (by omega))
theorem ch_bound {n k i : Nat} (hn : n ≤ 60) (hk : k ≤ 10) (hi : i ≤ 10) : chP n k i * (n - k + (i + 1)) ≤ 9223372036854775807 := by
  have h := ch_at hn hk
  simp only [Bool.and_eq_true] at h
  have := List.all_eq_true.1 h.2 i (List.mem_range.2 (by omega))
  simpa using this
theorem choose_le {n k : Nat} (hn : n ≤ 60) (hk : k ≤ 10) : chooseN n k ≤ chTop k := by
  rw [chooseN]
  split
  · omega
  · rename_i hk2
    have h := ch_at hn hk
    simp only [Bool.and_eq_true, Bool.or_eq_true, decide_eq_true_eq] at h
    rcases h.1 with h1 | h1
    · omega
    · exact h1.2
theorem choose_pos {n k : Nat} (hn : n ≤ 60) (hk : k ≤ 10) (hle : k ≤ n) : 1 ≤ chooseN n k := by
  rw [chooseN, if_neg (by omega)]
  have h := ch_at hn hk
  simp only [Bool.and_eq_true, Bool.or_eq_true, decide_eq_true_eq] at h
  rcases h.1 with h1 | h1
  · omega
  · exact h1.1
theorem top_le {i j : Nat} (h : i + j ≤ 10) : chTop i * chTop j ≤ 30000000000000 := by
  have h1 := List.all_eq_true.1 (List.all_eq_true.1 top_table i (List.mem_range.2 (by omega))) j (List.mem_range.2 (by omega))
  simp only [Bool.or_eq_true, decide_eq_true_eq] at h1
  omega
theorem prod_le {a b i j : Nat} (ha : a ≤ 60) (hb : b ≤ 60) (h : i + j ≤ 10) : chooseN a i * chooseN b j ≤ 30000000000000 :=
  Nat.le_trans (Nat.mul_le_mul (choose_le ha (by omega)) (choose_le hb (by omega))) (top_le h)
theorem chTop_le {k : Nat} (hk : k ≤ 10) : chTop k ≤ 75394027566 := by
  have := top_le (i := k) (j := 0) (by omega)
  have h2 : ((List.range 11).all fun i => decide (chTop i ≤ 75394027566)) = true := by decide +kernel
  have := List.all_eq_true.1 h2 k (List.mem_range.2 (by omega))
  simpa using this
theorem ch_cast {n k : Nat} (h : k ≤ n) (i : Nat) : ((chP n k (i + 1) : Nat) : Int) = (chP n k i : Int) * ((n : Int) - (k : Int) + ((i : Int) + 1)) / ((i : Int) + 1) := by
  rw [chP, Int.natCast_ediv, Int.natCast_mul, Int.natCast_add, Int.natCast_sub h]
  simp
theorem ch_prod {n k i : Nat} (h : k ≤ n) : (chP n k i : Int) * ((n : Int) - (k : Int) + ((i : Int) + 1)) = ((chP n k i * (n - k + (i + 1)) : Nat) : Int) := by
  rw [Int.natCast_mul, Int.natCast_add, Int.natCast_sub h]; simp

set_option maxHeartbeats 1000000 in
theorem l19Choose_any (n k : Nat) (w : World) (hn : n ≤ 60) (hk : k ≤ 10) :
    Calls Try.prog 84 #[.int .i64 n, .int .i64 k] w fun e w' => e = .returned (.int .i64 ((chooseN n k : Nat) : Int)) ∧ w = w' := by
  have h0 : ¬ (k : Int) < 0 := by omega
  by_cases hlt : n < k
  · have E := Lib.hid (show chooseN n k = 0 by rw [chooseN, if_pos hlt])
    have hd : decide ((n : Int) < (k : Int)) = true := by simpa using hlt
    go_enter Try.func84, Try.ntmps84
    go_wp2
    go_ret
    exact ⟨ret_int (by rw [E.out]; rfl), rfl⟩
  · have E := Lib.hid (show chooseN n k = chP n k k by rw [chooseN, if_neg hlt])
    have hd : decide ((n : Int) < (k : Int)) = false := by simpa using hlt
    go_enter Try.func84, Try.ntmps84
    go_wp2
    go_loop [5, 6] (fun u v => ∃ i : Nat, i ≤ k ∧ v = .int .i64 ((i : Int) + 1) ∧ u = .int .i64 ((chP n k i : Nat) : Int)) (fun _ v => k + 1 - (intOf v).toNat)
    case atStart => exact ⟨0, Nat.zero_le _, rfl, rfl⟩
    case round =>
      obtain ⟨i, hi, rfl, rfl⟩ := hrel
      by_cases hik : i < k
      · have hle : (i : Int) + 1 ≤ k := by omega
        have C := Lib.hid (ch_cast (n := n) (k := k) (by omega) i)
        have hb := ch_bound (n := n) (k := k) (i := i) hn hk (by omega)
        have hp := ch_prod (n := n) (k := k) (i := i) (by omega)
        have hw : wrap64 ((chP n k i : Int) * ((n : Int) - (k : Int) + ((i : Int) + 1))) = (chP n k i : Int) * ((n : Int) - (k : Int) + ((i : Int) + 1)) := IntWalk.wrap64_in _ (by rw [hp]; omega)
        have hnn : (0 : Int) ≤ (chP n k i : Int) * ((n : Int) - (k : Int) + ((i : Int) + 1)) := by rw [hp]; omega
        have D := Lib.hid (show wrap64 (Int.tdiv ((chP n k i : Int) * ((n : Int) - (k : Int) + ((i : Int) + 1))) ((i : Int) + 1)) = (chP n k i : Int) * ((n : Int) - (k : Int) + ((i : Int) + 1)) / ((i : Int) + 1) by
          rw [Int.tdiv_eq_ediv_of_nonneg hnn]
          refine IntWalk.wrap64_in _ ?_
          rw [hp, show ((i : Int) + 1) = ((i + 1 : Nat) : Int) by simp, ← Int.natCast_ediv]
          have h1 : ((chP n k i * (n - k + (i + 1)) / (i + 1) : Nat) : Int) ≤ ((chP n k i * (n - k + (i + 1)) : Nat) : Int) := Int.ofNat_le.2 (Nat.div_le_self (chP n k i * (n - k + (i + 1))) (i + 1))
          have h2 : (0 : Int) ≤ ((chP n k i * (n - k + (i + 1)) / (i + 1) : Nat) : Int) := Int.natCast_nonneg _
          have h3 : ((chP n k i * (n - k + (i + 1)) : Nat) : Int) ≤ 9223372036854775807 := by omega
          exact ⟨Int.le_trans (by decide) h2, Int.le_trans h1 h3⟩)
        clear hp hb
        go_wp2
        go_round
        case rel => exact ⟨i + 1, by omega, by go_num, by rw [C.out, D.out]⟩
        case measure => simp [intOf]; omega
      · obtain rfl : k = i := by omega
        go_wp2
        go_ret
        exact ⟨ret_int (by rw [E.out]), rfl⟩
set_option maxHeartbeats 1000000 in
theorem choose_any (n k : Nat) (w : World) (hn : n ≤ 60) (hk : k ≤ 10) :
    Calls Try.prog 85 #[.int .i64 n, .int .i64 k] w fun e w' => e = .returned (.int .i64 ((chooseN n k : Nat) : Int)) ∧ w = w' := by
  have h0 : ¬ (k : Int) < 0 := by omega
  by_cases hlt : n < k
  · have E := Lib.hid (show chooseN n k = 0 by rw [chooseN, if_pos hlt])
    have hd : decide ((n : Int) < (k : Int)) = true := by simpa using hlt
    go_enter Try.func85, Try.ntmps85
    go_wp2
    go_ret
    exact ⟨ret_int (by rw [E.out]; rfl), rfl⟩
  · have E := Lib.hid (show chooseN n k = chP n k k by rw [chooseN, if_neg hlt])
    have hd : decide ((n : Int) < (k : Int)) = false := by simpa using hlt
    go_enter Try.func85, Try.ntmps85
    go_wp2
    go_loop [5, 6] (fun u v => ∃ i : Nat, i ≤ k ∧ v = .int .i64 ((i : Int) + 1) ∧ u = .int .i64 ((chP n k i : Nat) : Int)) (fun _ v => k + 1 - (intOf v).toNat)
    case atStart => exact ⟨0, Nat.zero_le _, rfl, rfl⟩
    case round =>
      obtain ⟨i, hi, rfl, rfl⟩ := hrel
      by_cases hik : i < k
      · have hle : (i : Int) + 1 ≤ k := by omega
        have C := Lib.hid (ch_cast (n := n) (k := k) (by omega) i)
        have hb := ch_bound (n := n) (k := k) (i := i) hn hk (by omega)
        have hp := ch_prod (n := n) (k := k) (i := i) (by omega)
        have hw : wrap64 ((chP n k i : Int) * ((n : Int) - (k : Int) + ((i : Int) + 1))) = (chP n k i : Int) * ((n : Int) - (k : Int) + ((i : Int) + 1)) := IntWalk.wrap64_in _ (by rw [hp]; omega)
        have hnn : (0 : Int) ≤ (chP n k i : Int) * ((n : Int) - (k : Int) + ((i : Int) + 1)) := by rw [hp]; omega
        have D := Lib.hid (show wrap64 (Int.tdiv ((chP n k i : Int) * ((n : Int) - (k : Int) + ((i : Int) + 1))) ((i : Int) + 1)) = (chP n k i : Int) * ((n : Int) - (k : Int) + ((i : Int) + 1)) / ((i : Int) + 1) by
          rw [Int.tdiv_eq_ediv_of_nonneg hnn]
          refine IntWalk.wrap64_in _ ?_
          rw [hp, show ((i : Int) + 1) = ((i + 1 : Nat) : Int) by simp, ← Int.natCast_ediv]
          have h1 : ((chP n k i * (n - k + (i + 1)) / (i + 1) : Nat) : Int) ≤ ((chP n k i * (n - k + (i + 1)) : Nat) : Int) := Int.ofNat_le.2 (Nat.div_le_self (chP n k i * (n - k + (i + 1))) (i + 1))
          have h2 : (0 : Int) ≤ ((chP n k i * (n - k + (i + 1)) / (i + 1) : Nat) : Int) := Int.natCast_nonneg _
          have h3 : ((chP n k i * (n - k + (i + 1)) : Nat) : Int) ≤ 9223372036854775807 := by omega
          exact ⟨Int.le_trans (by decide) h2, Int.le_trans h1 h3⟩)
        clear hp hb
        go_wp2
        go_round
        case rel => exact ⟨i + 1, by omega, by go_num, by rw [C.out, D.out]⟩
        case measure => simp [intOf]; omega
      · obtain rfl : k = i := by omega
        go_wp2
        go_ret
        exact ⟨ret_int (by rw [E.out]), rfl⟩

/-- The sum behind i rounds. -/
def sumC (lot weak tested : Nat) : Nat → Nat
  | 0 => 0
  | i + 1 => sumC lot weak tested i + chooseN weak i * chooseN (lot - weak) (tested - i)
theorem sumC_le {lot weak tested : Nat} (hl : lot ≤ 60) (hw : weak ≤ lot) (ht : tested ≤ 10) : ∀ i, i ≤ tested + 1 → sumC lot weak tested i ≤ 30000000000000 * i := by
  intro i
  induction i with
  | zero => intro _; simp [sumC]
  | succ i ih =>
    intro hi
    have h1 := ih (by omega)
    have h2 := prod_le (a := weak) (b := lot - weak) (i := i) (j := tested - i) (by omega) (by omega) (by omega)
    rw [sumC]
    omega
theorem sumC_flat {lot weak tested : Nat} (hl : lot ≤ 60) (hw : weak ≤ lot) (ht : tested ≤ 10) {i : Nat} (hi : i ≤ tested + 1) : ((sumC lot weak tested i : Nat) : Int) ≤ 330000000000000 := by
  have h1 := sumC_le hl hw ht i hi
  have h2 : 30000000000000 * i ≤ 330000000000000 := Nat.le_trans (Nat.mul_le_mul_left 30000000000000 (show i ≤ 11 by omega)) (by decide)
  exact Int.ofNat_le.2 (Nat.le_trans h1 h2)
theorem prod_flat {a b i j : Nat} (ha : a ≤ 60) (hb : b ≤ 60) (h : i + j ≤ 10) : (0 : Int) ≤ (chooseN a i : Int) * (chooseN b j : Int) ∧ (chooseN a i : Int) * (chooseN b j : Int) ≤ 30000000000000 := by
  rw [← Int.natCast_mul]
  exact ⟨Int.natCast_nonneg _, Int.ofNat_le.2 (prod_le ha hb h)⟩
theorem add_wrap {s p : Int} (h0 : 0 ≤ s) (h1 : s ≤ 330000000000000) (h2 : 0 ≤ p) (h3 : p ≤ 30000000000000) : wrap64 (s + p) = s + p := IntWalk.wrap64_in _ (by omega)
theorem choose_flat {n k : Nat} (hn : n ≤ 60) (hk : k ≤ 10) : ((chooseN n k : Nat) : Int) ≤ 75394027566 := Int.ofNat_le.2 (Nat.le_trans (choose_le hn hk) (chTop_le hk))
theorem sumC_cast (lot weak tested i : Nat) : ((sumC lot weak tested (i + 1) : Nat) : Int) = (sumC lot weak tested i : Int) + (chooseN weak i : Int) * (chooseN (lot - weak) (tested - i) : Int) := by
  rw [sumC]; simp

set_option maxHeartbeats 1000000 in
theorem l19Chance_any (lot weak tested allowed : Nat) (w : World) (hl : lot ≤ 60) (hw : weak ≤ lot) (ht : tested ≤ 10) (htl : tested ≤ lot) (ha : allowed ≤ tested) :
    Calls Try.prog 55 #[.int .i64 lot, .int .i64 weak, .int .i64 tested, .int .i64 allowed] w
      fun e w' => e = .returned (.agg #[.int .i64 (lowN (sumC lot weak tested (allowed + 1)) (chooseN lot tested)), .int .i64 (lowD (sumC lot weak tested (allowed + 1)) (chooseN lot tested))]) ∧ Below w.heap.size w w' := by
  have hall := sumC_flat hl hw ht (Nat.succ_le_succ ha)
  have htop := choose_flat hl ht
  have hpos := choose_pos hl ht htl
  have HALL := Lib.hid hall; have HTOP := Lib.hid htop; have HPOS := Lib.hid hpos; clear hall htop hpos
  go_enter Try.func55, Try.ntmps55
  go_wp2
  go_loop [9, 10] (fun u v => ∃ i : Nat, i ≤ allowed + 1 ∧ v = .int .i64 i ∧ u = .int .i64 ((sumC lot weak tested i : Nat) : Int)) (fun _ v => allowed + 1 - (intOf v).toNat)
  case atStart => exact ⟨0, Nat.zero_le _, rfl, rfl⟩
  case round =>
    obtain ⟨i, hi, rfl, rfl⟩ := hrel
    by_cases hik : i ≤ allowed
    · have hle : (i : Int) ≤ allowed := by omega
      have hw60 : weak ≤ 60 := Nat.le_trans hw hl
      have hi10 : i ≤ 10 := Nat.le_trans hik (Nat.le_trans ha ht)
      have hij : i + (tested - i) ≤ 10 := by rw [Nat.add_sub_cancel' (Nat.le_trans hik ha)]; exact ht
      have hs := sumC_flat hl hw ht (Nat.le_trans hik (Nat.le_trans ha (Nat.le_succ _)))
      obtain ⟨hp0, hp1⟩ := prod_flat (a := weak) (b := lot - weak) (i := i) (j := tested - i) hw60 (Nat.le_trans (Nat.sub_le _ _) hl) hij
      have S := Lib.hid (sumC_cast lot weak tested i)
      have e1 : wrap64 ((chooseN weak i : Int) * (chooseN (lot - weak) (tested - i) : Int)) = (chooseN weak i : Int) * (chooseN (lot - weak) (tested - i) : Int) := IntWalk.wrap64_in _ (by omega)
      have e2 : wrap64 ((sumC lot weak tested i : Int) + (chooseN weak i : Int) * (chooseN (lot - weak) (tested - i) : Int)) = (sumC lot weak tested i : Int) + (chooseN weak i : Int) * (chooseN (lot - weak) (tested - i) : Int) := add_wrap (Int.natCast_nonneg _) hs hp0 hp1
      have E2 := Lib.hid e2
      have c1 : ((lot : Int) - (weak : Int)) = ((lot - weak : Nat) : Int) := by omega
      have c2 : ((tested : Int) - (i : Int)) = ((tested - i : Nat) : Int) := by omega
      have C1 := Lib.hid c1; have C2 := Lib.hid c2; clear c1 c2
      go_wp2_with fail
      refine (l19Choose_any weak i _ hw60 hi10).mono ?_; rintro e w' ⟨rfl, rfl⟩
      go_wp2_with fail
      rw [C1.out, C2.out]
      refine (l19Choose_any (lot - weak) (tested - i) _ (Nat.le_trans (Nat.sub_le _ _) hl) (Nat.le_trans (Nat.sub_le _ _) ht)).mono ?_; rintro e w' ⟨rfl, rfl⟩
      go_wp2_with fail
      go_round
      case rel => exact ⟨i + 1, by omega, by go_num, by first | rw [S.out, E2.out] | rw [S.out]⟩
      case measure => simp [intOf]; omega
    · obtain rfl : i = allowed + 1 := by omega
      go_wp2_with fail
      refine (l19Choose_any lot tested _ hl ht).mono ?_; rintro e w' ⟨rfl, rfl⟩
      go_wp2_with fail
      refine (l02Make_any (sumC lot weak tested (allowed + 1)) (chooseN lot tested) _ (Int.le_trans HALL.out (by decide)) (Int.le_trans HTOP.out (by decide)) HPOS.out).mono ?_; rintro e w1 ⟨rfl, hb1⟩
      obtain ⟨hc1, hf1⟩ := bcell hb1
      have hz1 := hb1.size
      simp only [World.size_alloc] at hz1
      have H1 : Below w.heap.size w w1 := bel_tr (by go_grown) hb1
      go_wp2_with fail
      refine bodyPost_ret (v := .agg #[.int .i64 (lowN (sumC lot weak tested (allowed + 1)) (chooseN lot tested)), .int .i64 (lowD (sumC lot weak tested (allowed + 1)) (chooseN lot tested))]) (by simp [results, Try.results55, go_sem, hc1]) rfl ⟨rfl, (H1.setCell (Nat.le_refl _) _).setCell (Nat.le_refl _) _⟩

set_option maxHeartbeats 1000000 in
theorem passChance_any (lot weak tested allowed : Nat) (w : World) (hl : lot ≤ 60) (hw : weak ≤ lot) (ht : tested ≤ 10) (htl : tested ≤ lot) (ha : allowed ≤ tested) :
    Calls Try.prog 58 #[.int .i64 lot, .int .i64 weak, .int .i64 tested, .int .i64 allowed] w
      fun e w' => e = .returned (.agg #[.int .i64 (lowN (sumC lot weak tested (allowed + 1)) (chooseN lot tested)), .int .i64 (lowD (sumC lot weak tested (allowed + 1)) (chooseN lot tested))]) ∧ Below w.heap.size w w' := by
  have hall := sumC_flat hl hw ht (Nat.succ_le_succ ha)
  have htop := choose_flat hl ht
  have hpos := choose_pos hl ht htl
  have HALL := Lib.hid hall; have HTOP := Lib.hid htop; have HPOS := Lib.hid hpos; clear hall htop hpos
  go_enter Try.func58, Try.ntmps58
  go_wp2
  go_loop [9, 10] (fun u v => ∃ i : Nat, i ≤ allowed + 1 ∧ v = .int .i64 i ∧ u = .int .i64 ((sumC lot weak tested i : Nat) : Int)) (fun _ v => allowed + 1 - (intOf v).toNat)
  case atStart => exact ⟨0, Nat.zero_le _, rfl, rfl⟩
  case round =>
    obtain ⟨i, hi, rfl, rfl⟩ := hrel
    by_cases hik : i ≤ allowed
    · have hle : (i : Int) ≤ allowed := by omega
      have hw60 : weak ≤ 60 := Nat.le_trans hw hl
      have hi10 : i ≤ 10 := Nat.le_trans hik (Nat.le_trans ha ht)
      have hij : i + (tested - i) ≤ 10 := by rw [Nat.add_sub_cancel' (Nat.le_trans hik ha)]; exact ht
      have hs := sumC_flat hl hw ht (Nat.le_trans hik (Nat.le_trans ha (Nat.le_succ _)))
      obtain ⟨hp0, hp1⟩ := prod_flat (a := weak) (b := lot - weak) (i := i) (j := tested - i) hw60 (Nat.le_trans (Nat.sub_le _ _) hl) hij
      have S := Lib.hid (sumC_cast lot weak tested i)
      have e1 : wrap64 ((chooseN weak i : Int) * (chooseN (lot - weak) (tested - i) : Int)) = (chooseN weak i : Int) * (chooseN (lot - weak) (tested - i) : Int) := IntWalk.wrap64_in _ (by omega)
      have e2 : wrap64 ((sumC lot weak tested i : Int) + (chooseN weak i : Int) * (chooseN (lot - weak) (tested - i) : Int)) = (sumC lot weak tested i : Int) + (chooseN weak i : Int) * (chooseN (lot - weak) (tested - i) : Int) := add_wrap (Int.natCast_nonneg _) hs hp0 hp1
      have E2 := Lib.hid e2
      have c1 : ((lot : Int) - (weak : Int)) = ((lot - weak : Nat) : Int) := by omega
      have c2 : ((tested : Int) - (i : Int)) = ((tested - i : Nat) : Int) := by omega
      have C1 := Lib.hid c1; have C2 := Lib.hid c2; clear c1 c2
      go_wp2_with fail
      refine (choose_any weak i _ hw60 hi10).mono ?_; rintro e w' ⟨rfl, rfl⟩
      go_wp2_with fail
      rw [C1.out, C2.out]
      refine (choose_any (lot - weak) (tested - i) _ (Nat.le_trans (Nat.sub_le _ _) hl) (Nat.le_trans (Nat.sub_le _ _) ht)).mono ?_; rintro e w' ⟨rfl, rfl⟩
      go_wp2_with fail
      go_round
      case rel => exact ⟨i + 1, by omega, by go_num, by first | rw [S.out, E2.out] | rw [S.out]⟩
      case measure => simp [intOf]; omega
    · obtain rfl : i = allowed + 1 := by omega
      go_wp2_with fail
      refine (choose_any lot tested _ hl ht).mono ?_; rintro e w' ⟨rfl, rfl⟩
      go_wp2_with fail
      refine (lowest_any (sumC lot weak tested (allowed + 1)) (chooseN lot tested) _ (Int.le_trans HALL.out (by decide)) (Int.le_trans HTOP.out (by decide)) HPOS.out).mono ?_; rintro e w1 ⟨rfl, hb1⟩
      obtain ⟨hc1, hf1⟩ := bcell hb1
      have hz1 := hb1.size
      simp only [World.size_alloc] at hz1
      have H1 : Below w.heap.size w w1 := bel_tr (by go_grown) hb1
      go_wp2_with fail
      refine bodyPost_ret (v := .agg #[.int .i64 (lowN (sumC lot weak tested (allowed + 1)) (chooseN lot tested)), .int .i64 (lowD (sumC lot weak tested (allowed + 1)) (chooseN lot tested))]) (by simp [results, Try.results58, go_sem, hc1]) rfl ⟨rfl, (H1.setCell (Nat.le_refl _) _).setCell (Nat.le_refl _) _⟩
end Go.Proofs.Ytnibggkjgpgljaa
