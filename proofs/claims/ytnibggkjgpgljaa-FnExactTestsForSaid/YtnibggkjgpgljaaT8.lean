/- The contracts of TestsFor, the reference's and the program's. -/
import Derived.Test.YtnibggkjgpgljaaT7
namespace Go.Proofs.Ytnibggkjgpgljaa
open Go.RowKit
set_option linter.unusedVariables false

theorem l00Min_any (a b : Int) (w : World) :
    Calls Try.prog 60 #[.int .i64 a, .int .i64 b] w fun e w' => e = .returned (.int .i64 (min a b)) ∧ w = w' := by
  go_enter Try.func60, Try.ntmps60
  go_wp2
  all_goals (go_ret; exact ⟨ret_int (by omega), rfl⟩)

def tfP (l k a : Nat) (f : Fraction) (j : Nat) : Bool := decide (passN l k (j + 1) (min a (j + 1)) * f.Den ≤ f.Num * passD l k (j + 1) (min a (j + 1)))
def tfB (lot weak allowed : Int) (f : Fraction) : Bool := lotB lot weak && inB allowed 0 9 && chB f
def tfF (lot weak allowed : Int) (f : Fraction) : Int × Int :=
  if tfB lot weak allowed f = true then
    (if firstN (tfP lot.toNat weak.toNat allowed.toNat f) (min lot.toNat 10) < min lot.toNat 10 then (((firstN (tfP lot.toNat weak.toNat allowed.toNat f) (min lot.toNat 10) : Nat) : Int) + 1, 0) else (0, 3)) else (0, 2)

set_option maxHeartbeats 2000000 in
theorem specTestsFor_any (lot weak allowed : Int) (f : Fraction) (w : World) :
    Calls Try.prog 25 #[.int .i64 lot, .int .i64 weak, .int .i64 allowed, .agg #[.int .i64 f.Num, .int .i64 f.Den]] w (Two (tfF lot weak allowed f) w) := by
  rcases Bool.eq_false_or_eq_true (inB lot 1 60) with ga | ga
  · rcases Bool.eq_false_or_eq_true (inB weak 0 lot) with gb | gb
    · rcases Bool.eq_false_or_eq_true (inB allowed 0 9) with gc | gc
      · rcases Bool.eq_false_or_eq_true (chB f) with gf | gf
        · have hlB : lotB lot weak = true := by rw [lotB, ga, gb]; rfl
          have hB0 : tfB lot weak allowed f = true := by rw [tfB, hlB, gc, gf]; rfl
          have hc9 := inB_true.1 gc
          have GA := Lib.hid ga; have GB := Lib.hid gb; have GC := Lib.hid gc; have GF := Lib.hid gf
          obtain ⟨l, k, rfl, rfl, hl, hk⟩ := lotB_nat hlB
          have hl1 := (inB_true.1 ga).1
          obtain ⟨a, rfl⟩ := Int.eq_ofNat_of_zero_le (show 0 ≤ allowed by omega)
          obtain ⟨M, hM⟩ : ∃ M, min l 10 = M := ⟨_, rfl⟩
          have E0 : tfF (l : Int) k a f = if firstN (tfP l k a f) M < M then (((firstN (tfP l k a f) M : Nat) : Int) + 1, 0) else (0, 3) := by
            rw [← hM, tfF, if_pos hB0]; rfl
          have E := Lib.hid E0
          have hM1 : M ≤ l := by omega
          have hM2 : M ≤ 10 := by omega
          have HM := Lib.hid (show min (l : Int) 10 = (M : Int) by omega)
          obtain ⟨f0, f1, f2, f3⟩ := chB_parts gf
          clear hM E0 hlB hB0 ga gb gc gf
          go_enter Try.func25, Try.ntmps25
          go_wp2_with fail
          refine (asB (in_any _ _ _ _) GA.out).mono ?_; rintro e w' ⟨rfl, rfl⟩
          go_wp2_with fail
          refine (asB (in_any _ _ _ _) GB.out).mono ?_; rintro e w' ⟨rfl, rfl⟩
          go_wp2_with fail
          refine (asB (in_any _ _ _ _) GC.out).mono ?_; rintro e w' ⟨rfl, rfl⟩
          go_wp2_with fail
          (refine (asB (l19Fraction_any f _) GF.out).mono ?_; rintro e w1 ⟨rfl, hb1⟩; obtain ⟨hc1, hf1⟩ := bcell hb1; have hz1 := hb1.size; (try simp only [World.size_alloc] at hz1); (try simp only [World.size_setCell] at hz1); (try simp only [World.size_drew] at hz1); (try have L1 : w.heap.size < w1.heap.size := by omega); have B1 : Below w.heap.size w w1 := bel_tr (by first | (go_grown; done) | (go_split_ands; assumption)) hb1)
          go_wp2_with fail
          have c0 : w1.cell? ⟨w.heap.size, 0, none⟩ = some (.int .i64 f.Num) := by go_simp
          have c1 : w1.cell? ⟨w.heap.size, 1, none⟩ = some (.int .i64 f.Den) := by go_simp
          clear hc1 hf1 hb1
          go_loopw [10] (fun u wr => ∃ b v : Nat, b ≤ M ∧ v = b + 1 ∧ u = .int .i64 v ∧ NoneB (tfP l k a f) b ∧ Below w.heap.size w wr ∧ wr.cell? ⟨w.heap.size, 0, none⟩ = some (.int .i64 f.Num) ∧ wr.cell? ⟨w.heap.size, 1, none⟩ = some (.int .i64 f.Den) ∧ w.heap.size < wr.heap.size) (fun u _ => M + 1 - (intOf u).toNat)
          case atStart => exact ⟨0, 1, Nat.zero_le _, rfl, rfl, NoneB.zero _, B1, c0, c1, L1⟩
          case round =>
            obtain ⟨b, v, hbl, hv, rfl, hn, hB, d0, d1, hL⟩ := hrel
            have HV := Lib.hid hv
            have HN := Lib.hid hn; clear hn
            have hv2 : b + 1 ≤ v := by omega
            have hv3 : v ≤ b + 1 := by omega
            have hv1 : 1 ≤ v := by omega
            clear hv
            by_cases hlt : v ≤ M
            · have hvl : v ≤ l := by omega
              have hv10 : v ≤ 10 := by omega
              have hav : min a v ≤ v := Nat.min_le_right _ _
              obtain ⟨c, hc⟩ : ∃ c, min a v = c := ⟨_, rfl⟩
              rw [hc] at hav
              have HC2 := Lib.hid (show min (a : Int) (v : Int) = (c : Int) by omega)
              obtain ⟨n0, n1⟩ := passN_bound (k := k) hl hk hv10 hvl hav
              obtain ⟨m0, m1⟩ := passD_bound (k := k) hl hk hv10 hvl hav
              have W1 := Lib.hid (mul_wrap n0 n1 (show 0 ≤ f.Den by omega) f3)
              have W2 := Lib.hid (mul_wrap' m0 m1 f0 f1)
              have HP := Lib.hid (show tfP l k a f b = decide (passN l k v c * f.Den ≤ f.Num * passD l k v c) by rw [tfP, ← HV.out, hc])
              have C := fun W => l19Chance_any l k v c W hl hk hv10 hvl hav
              have HC := Lib.hid C; clear C n0 n1 m0 m1 hc
              obtain ⟨x, hx⟩ : ∃ x, decide (f.Num * passD l k v c < passN l k v c * f.Den) = x := ⟨_, rfl⟩
              have HX := Lib.hid hx; clear hx
              have hmin : (v : Int) ≤ (M : Int) := by omega
              cases x
              · go_wp2_with fail
                refine (l00Min_any _ _ _).mono ?_; rw [HM.out]; rintro e w' ⟨rfl, rfl⟩
                go_wp2_with fail
                go_region_held3 (fun w' => w'.cell? ⟨w.heap.size, 0, none⟩ = some (.int .i64 f.Num) ∧ w'.cell? ⟨w.heap.size, 1, none⟩ = some (.int .i64 f.Den) ∧ w.heap.size < w'.heap.size ∧ Below wr.heap.size wr w')
                  ((try refine ⟨?_, ?_, ?_, ?_⟩) <;> (first | go_keep | (go_grown; done) | (go_split_ands; first | exact (hb1.cell (p := ⟨_, _, none⟩) (by assumption)).trans (by assumption) | exact Nat.lt_of_lt_of_le (by assumption) hb1.size | exact bel_tr (by assumption) hb1)))
                  (first | (go_at_call 60; refine (l00Min_any _ _ _).mono ?_; rw [HC2.out]; rintro e w' ⟨rfl, rfl⟩) | (go_at_call 55; refine (HC.out _).mono ?_; rintro e w1 ⟨rfl, hb1⟩) | (go_at_call 61; refine (asB (l19Less_any f.Num f.Den (passN l k v c) (passD l k v c) _ W2.out W1.out) HX.out).mono ?_; rintro e w1 ⟨rfl, hb1⟩))
                all_goals
                  go_wp2
                  go_ret2
                  exact Two.mk (by
                    have hP : tfP l k a f b = true := by
                      rw [HP.out]; have := HX.out; simp only [decide_eq_false_iff_not, decide_eq_true_eq] at *; omega
                    rw [E.out, firstN_some (show b < M by omega) hP HN.out, if_pos (by omega), HV.out]; simp) (bel_tr hB (by go_split_ands; assumption))
              · go_wp2_with fail
                refine (l00Min_any _ _ _).mono ?_; rw [HM.out]; rintro e w' ⟨rfl, rfl⟩
                go_wp2_with fail
                go_region_held3 (fun w' => w'.cell? ⟨w.heap.size, 0, none⟩ = some (.int .i64 f.Num) ∧ w'.cell? ⟨w.heap.size, 1, none⟩ = some (.int .i64 f.Den) ∧ w.heap.size < w'.heap.size ∧ Below wr.heap.size wr w')
                  ((try refine ⟨?_, ?_, ?_, ?_⟩) <;> (first | go_keep | (go_grown; done) | (go_split_ands; first | exact (hb1.cell (p := ⟨_, _, none⟩) (by assumption)).trans (by assumption) | exact Nat.lt_of_lt_of_le (by assumption) hb1.size | exact bel_tr (by assumption) hb1)))
                  (first | (go_at_call 60; refine (l00Min_any _ _ _).mono ?_; rw [HC2.out]; rintro e w' ⟨rfl, rfl⟩) | (go_at_call 55; refine (HC.out _).mono ?_; rintro e w1 ⟨rfl, hb1⟩) | (go_at_call 61; refine (asB (l19Less_any f.Num f.Den (passN l k v c) (passD l k v c) _ W2.out W1.out) HX.out).mono ?_; rintro e w1 ⟨rfl, hb1⟩))
                all_goals
                  go_wp2
                  go_roundw
                  case rel => exact ⟨v, v + 1, by omega, rfl, by go_num, by
                    have hP : tfP l k a f b = false := by
                      rw [HP.out]; have := HX.out; simp only [decide_eq_false_iff_not, decide_eq_true_eq] at *; omega
                    rw [HV.out]; exact HN.out.succ hP, bel_tr hB (by go_split_ands; assumption), by go_split_ands; assumption, by go_split_ands; assumption, by go_split_ands; assumption⟩
                  case measure => simp [intOf]; omega
            · have hmin : ¬ (v : Int) ≤ (M : Int) := by omega
              obtain rfl : M = b := by omega
              go_wp2_with fail
              refine (l00Min_any _ _ _).mono ?_; rw [HM.out]; rintro e w' ⟨rfl, rfl⟩
              go_wp2_with fail
              go_ret2
              exact Two.mk (by rw [E.out, firstN_none HN.out, if_neg (by omega)]) hB
        · have E := Lib.hid (show tfF lot weak allowed f = (0, 2) by rw [tfF, tfB, gf]; simp)
          have GA := Lib.hid ga; have GB := Lib.hid gb; have GC := Lib.hid gc; have GF := Lib.hid gf; clear ga gb gc gf
          go_enter Try.func25, Try.ntmps25
          go_wp2_with fail
          refine (asB (in_any _ _ _ _) GA.out).mono ?_; rintro e w' ⟨rfl, rfl⟩
          go_wp2_with fail
          refine (asB (in_any _ _ _ _) GB.out).mono ?_; rintro e w' ⟨rfl, rfl⟩
          go_wp2_with fail
          refine (asB (in_any _ _ _ _) GC.out).mono ?_; rintro e w' ⟨rfl, rfl⟩
          go_wp2_with fail
          (refine (asB (l19Fraction_any f _) GF.out).mono ?_; rintro e w1 ⟨rfl, hb1⟩; obtain ⟨hc1, hf1⟩ := bcell hb1; have hz1 := hb1.size; (try simp only [World.size_alloc] at hz1); (try simp only [World.size_setCell] at hz1); (try simp only [World.size_drew] at hz1); (try have L1 : w.heap.size < w1.heap.size := by omega); have B1 : Below w.heap.size w w1 := bel_tr (by first | (go_grown; done) | (go_split_ands; assumption)) hb1)
          go_wp2_with fail
          go_ret2
          exact Two.mk E.out B1
      · have E := Lib.hid (show tfF lot weak allowed f = (0, 2) by rw [tfF, tfB, gc]; simp)
        have GA := Lib.hid ga; have GB := Lib.hid gb; have GC := Lib.hid gc; clear ga gb gc
        go_enter Try.func25, Try.ntmps25
        go_wp2_with fail
        refine (asB (in_any _ _ _ _) GA.out).mono ?_; rintro e w' ⟨rfl, rfl⟩
        go_wp2_with fail
        refine (asB (in_any _ _ _ _) GB.out).mono ?_; rintro e w' ⟨rfl, rfl⟩
        go_wp2_with fail
        refine (asB (in_any _ _ _ _) GC.out).mono ?_; rintro e w' ⟨rfl, rfl⟩
        go_wp2_with fail
        go_ret2
        exact Two.mk E.out (by go_grown)
    · have E := Lib.hid (show tfF lot weak allowed f = (0, 2) by rw [tfF, tfB, lotB, gb]; simp)
      have GA := Lib.hid ga; have GB := Lib.hid gb; clear ga gb
      go_enter Try.func25, Try.ntmps25
      go_wp2_with fail
      refine (asB (in_any _ _ _ _) GA.out).mono ?_; rintro e w' ⟨rfl, rfl⟩
      go_wp2_with fail
      refine (asB (in_any _ _ _ _) GB.out).mono ?_; rintro e w' ⟨rfl, rfl⟩
      go_wp2_with fail
      go_ret2
      exact Two.mk E.out (by go_grown)
  · have E := Lib.hid (show tfF lot weak allowed f = (0, 2) by rw [tfF, tfB, lotB, ga]; simp)
    have GA := Lib.hid ga; clear ga
    go_enter Try.func25, Try.ntmps25
    go_wp2_with fail
    refine (asB (in_any _ _ _ _) GA.out).mono ?_; rintro e w' ⟨rfl, rfl⟩
    go_wp2_with fail
    go_ret2
    exact Two.mk E.out (by go_grown)

set_option maxHeartbeats 2000000 in
theorem implTestsFor_any (lot weak allowed : Int) (f : Fraction) (w : World) :
    Calls Try.prog 27 #[.int .i64 lot, .int .i64 weak, .int .i64 allowed, .agg #[.int .i64 f.Num, .int .i64 f.Den]] w (Two (tfF lot weak allowed f) w) := by
  rcases Bool.eq_false_or_eq_true (lotB lot weak) with ga | ga
  · rcases Bool.eq_false_or_eq_true (inB allowed 0 9) with gc | gc
    · rcases Bool.eq_false_or_eq_true (chB f) with gf | gf
      · have hB0 : tfB lot weak allowed f = true := by rw [tfB, ga, gc, gf]; rfl
        have hc9 := inB_true.1 gc
        have GA := Lib.hid ga; have GC := Lib.hid gc; have GF := Lib.hid gf
        have hl1 : 1 ≤ lot := by
          have h := ga; simp only [lotB, Bool.and_eq_true, inB_true] at h; omega
        obtain ⟨l, k, rfl, rfl, hl, hk⟩ := lotB_nat ga
        obtain ⟨a, rfl⟩ := Int.eq_ofNat_of_zero_le (show 0 ≤ allowed by omega)
        obtain ⟨M, hM⟩ : ∃ M, min l 10 = M := ⟨_, rfl⟩
        have E0 : tfF (l : Int) k a f = if firstN (tfP l k a f) M < M then (((firstN (tfP l k a f) M : Nat) : Int) + 1, 0) else (0, 3) := by
          rw [← hM, tfF, if_pos hB0]; rfl
        have E := Lib.hid E0
        have hM1 : M ≤ l := by omega
        have hM2 : M ≤ 10 := by omega
        have hmM : (if (l : Int) < 10 then (l : Int) else 10) = (M : Int) := by split <;> omega
        obtain ⟨f0, f1, f2, f3⟩ := chB_parts gf
        clear hM E0 hB0 ga gc gf
        go_enter Try.func27, Try.ntmps27
        go_wp2_with fail
        refine (asB (isLot_any _ _ _) GA.out).mono ?_; rintro e w' ⟨rfl, rfl⟩
        go_wp2_with fail
        refine (asB (within_any _ _ _ _) GC.out).mono ?_; rintro e w' ⟨rfl, rfl⟩
        go_wp2_with fail
        (refine (asB (isChance_any f _) GF.out).mono ?_; rintro e w1 ⟨rfl, hb1⟩; obtain ⟨hc1, hf1⟩ := bcell hb1; have hz1 := hb1.size; (try simp only [World.size_alloc] at hz1); (try simp only [World.size_setCell] at hz1); (try simp only [World.size_drew] at hz1); (try have L1 : w.heap.size < w1.heap.size := by omega); have B1 : Below w.heap.size w w1 := bel_tr (by first | (go_grown; done) | (go_split_ands; assumption)) hb1)
        go_wp2_with fail
        have c0 : w1.cell? ⟨w.heap.size, 0, none⟩ = some (.int .i64 f.Num) := by go_simp
        have c1 : w1.cell? ⟨w.heap.size, 1, none⟩ = some (.int .i64 f.Den) := by go_simp
        clear hc1 hf1 hb1
        go_loopw [10] (fun u wr => ∃ b v : Nat, b ≤ M ∧ v = b + 1 ∧ u = .int .i64 v ∧ NoneB (tfP l k a f) b ∧ Below w.heap.size w wr ∧ wr.cell? ⟨w.heap.size, 0, none⟩ = some (.int .i64 f.Num) ∧ wr.cell? ⟨w.heap.size, 1, none⟩ = some (.int .i64 f.Den) ∧ w.heap.size < wr.heap.size) (fun u _ => M + 1 - (intOf u).toNat)
        case atStart => exact ⟨0, 1, Nat.zero_le _, rfl, rfl, NoneB.zero _, B1, c0, c1, L1⟩
        case round =>
          obtain ⟨b, v, hbl, hv, rfl, hn, hB, d0, d1, hL⟩ := hrel
          have HV := Lib.hid hv
          have HN := Lib.hid hn; clear hn
          have hv2 : b + 1 ≤ v := by omega
          have hv3 : v ≤ b + 1 := by omega
          have hv1 : 1 ≤ v := by omega
          clear hv
          by_cases hlt : v ≤ M
          · have hvl : v ≤ l := by omega
            have hv10 : v ≤ 10 := by omega
            have hav : min a v ≤ v := Nat.min_le_right _ _
            obtain ⟨c, hc⟩ : ∃ c, min a v = c := ⟨_, rfl⟩
            rw [hc] at hav
            have hmc : (if (v : Int) < (a : Int) then (v : Int) else (a : Int)) = (c : Int) := by split <;> omega
            have hmc' : (if v < a then (v : Int) else (a : Int)) = (c : Int) := by split <;> omega
            obtain ⟨n0, n1⟩ := passN_bound (k := k) hl hk hv10 hvl hav
            obtain ⟨m0, m1⟩ := passD_bound (k := k) hl hk hv10 hvl hav
            have W1 := mul_wrap n0 n1 (show 0 ≤ f.Den by omega) f3
            have W2 := mul_wrap' m0 m1 f0 f1
            have HP := Lib.hid (show tfP l k a f b = decide (passN l k v c * f.Den ≤ f.Num * passD l k v c) by rw [tfP, ← HV.out, hc])
            have C := fun W => passC_any l k v c W hl hk hv10 hvl hav
            have HC := Lib.hid C; clear C n0 n1 m0 m1 hc
            have hmin : (v : Int) ≤ (M : Int) := by omega
            rcases Bool.eq_false_or_eq_true (decide (passN l k v c * f.Den ≤ f.Num * passD l k v c)) with x | x
            · have X := Lib.hid x
              go_wp2_with fail
              refine (HC.out _).mono ?_; rintro e w2 ⟨rfl, hb2⟩; obtain ⟨hc2, hf2⟩ := bcell hb2; have hz2 := hb2.size
              have B2 : Below w.heap.size w w2 := bel_tr hB hb2
              have k0 : w2.cell? ⟨w.heap.size, 0, none⟩ = some (.int .i64 f.Num) := by go_simp
              have k1 : w2.cell? ⟨w.heap.size, 1, none⟩ = some (.int .i64 f.Den) := by go_simp
              have L2 : w.heap.size < w2.heap.size := by omega
              clear hc2 hf2
              go_wp2_with fail
              go_ret2
              exact Two.mk (by rw [E.out, firstN_some (show b < M by omega) (by rw [HP.out, X.out]) HN.out, if_pos (by omega), HV.out]; simp) (by go_grown)
            · have X := Lib.hid x
              go_wp2_with fail
              refine (HC.out _).mono ?_; rintro e w2 ⟨rfl, hb2⟩; obtain ⟨hc2, hf2⟩ := bcell hb2; have hz2 := hb2.size
              have B2 : Below w.heap.size w w2 := bel_tr hB hb2
              have k0 : w2.cell? ⟨w.heap.size, 0, none⟩ = some (.int .i64 f.Num) := by go_simp
              have k1 : w2.cell? ⟨w.heap.size, 1, none⟩ = some (.int .i64 f.Den) := by go_simp
              have L2 : w.heap.size < w2.heap.size := by omega
              clear hc2 hf2
              go_wp2_with fail
              go_roundw
              case rel => exact ⟨v, v + 1, by omega, rfl, by go_num, by rw [HV.out]; exact HN.out.succ (by rw [HP.out, X.out]), by go_grown, by go_simp, by go_simp, by simp; omega⟩
              case measure => simp [intOf]; omega
          · have hmin : ¬ (v : Int) ≤ (M : Int) := by omega
            obtain rfl : M = b := by omega
            go_wp2_with fail
            go_ret2
            exact Two.mk (by rw [E.out, firstN_none HN.out, if_neg (by omega)]) hB
      · have E := Lib.hid (show tfF lot weak allowed f = (0, 2) by rw [tfF, tfB, gf]; simp)
        have GA := Lib.hid ga; have GC := Lib.hid gc; have GF := Lib.hid gf; clear ga gc gf
        go_enter Try.func27, Try.ntmps27
        go_wp2_with fail
        refine (asB (isLot_any _ _ _) GA.out).mono ?_; rintro e w' ⟨rfl, rfl⟩
        go_wp2_with fail
        refine (asB (within_any _ _ _ _) GC.out).mono ?_; rintro e w' ⟨rfl, rfl⟩
        go_wp2_with fail
        (refine (asB (isChance_any f _) GF.out).mono ?_; rintro e w1 ⟨rfl, hb1⟩; obtain ⟨hc1, hf1⟩ := bcell hb1; have hz1 := hb1.size; (try simp only [World.size_alloc] at hz1); (try simp only [World.size_setCell] at hz1); (try simp only [World.size_drew] at hz1); (try have L1 : w.heap.size < w1.heap.size := by omega); have B1 : Below w.heap.size w w1 := bel_tr (by first | (go_grown; done) | (go_split_ands; assumption)) hb1)
        go_wp2_with fail
        go_ret2
        exact Two.mk E.out B1
    · have E := Lib.hid (show tfF lot weak allowed f = (0, 2) by rw [tfF, tfB, gc]; simp)
      have GA := Lib.hid ga; have GC := Lib.hid gc; clear ga gc
      go_enter Try.func27, Try.ntmps27
      go_wp2_with fail
      refine (asB (isLot_any _ _ _) GA.out).mono ?_; rintro e w' ⟨rfl, rfl⟩
      go_wp2_with fail
      refine (asB (within_any _ _ _ _) GC.out).mono ?_; rintro e w' ⟨rfl, rfl⟩
      go_wp2_with fail
      go_ret2
      exact Two.mk E.out (by go_grown)
  · have E := Lib.hid (show tfF lot weak allowed f = (0, 2) by rw [tfF, tfB, ga]; simp)
    have GA := Lib.hid ga; clear ga
    go_enter Try.func27, Try.ntmps27
    go_wp2_with fail
    refine (asB (isLot_any _ _ _) GA.out).mono ?_; rintro e w' ⟨rfl, rfl⟩
    go_wp2_with fail
    go_ret2
    exact Two.mk E.out (by go_grown)
end Go.Proofs.Ytnibggkjgpgljaa
