/- The contracts of WeakUntil and TestsFor, the reference's and the program's. -/
import Derived.Test.YtnibggkjgpgljaaT6
import Derived.Test.YtnibggkjgpgljaaWx
import Derived.Test.YtnibggkjgpgljaaRFraction
namespace Go.Proofs.Ytnibggkjgpgljaa
open Go.RowKit
set_option linter.unusedVariables false

def chB (f : Fraction) : Bool := inB f.Den 1 1000 && inB f.Num 0 f.Den
theorem chB_parts {f : Fraction} (h : chB f = true) : 0 ≤ f.Num ∧ f.Num ≤ 1000 ∧ 1 ≤ f.Den ∧ f.Den ≤ 1000 := by
  simp only [chB, Bool.and_eq_true, inB_true] at h
  omega
set_option maxHeartbeats 400000 in
theorem l19Fraction_any (f : Fraction) (w : World) :
    Calls Try.prog 59 #[.agg #[.int .i64 f.Num, .int .i64 f.Den]] w fun e w' => e = .returned (.bool (chB f)) ∧ Below w.heap.size w w' := by
  have E := Lib.hid (show chB f = (inB f.Den 1 1000 && inB f.Num 0 f.Den) from rfl)
  rcases Bool.eq_false_or_eq_true (inB f.Den 1 1000) with g | g
  · have G := Lib.hid g; clear g
    go_enter Try.func59, Try.ntmps59
    go_wp2_with fail
    refine (asB (in_any _ _ _ _) G.out).mono ?_; rintro e w' ⟨rfl, rfl⟩
    go_wp2_with fail
    refine (in_any _ _ _ _).mono ?_; rintro e w' ⟨rfl, rfl⟩
    go_wp2_with fail
    go_ret
    exact ⟨ret_bool (by rw [E.out, G.out]; simp), by go_grown⟩
  · have G := Lib.hid g; clear g
    go_enter Try.func59, Try.ntmps59
    go_wp2_with fail
    refine (asB (in_any _ _ _ _) G.out).mono ?_; rintro e w' ⟨rfl, rfl⟩
    go_wp2_with fail
    go_ret
    exact ⟨ret_bool (by rw [E.out, G.out]; simp), by go_grown⟩
set_option maxHeartbeats 400000 in
theorem isChance_any (f : Fraction) (w : World) :
    Calls Try.prog 62 #[.agg #[.int .i64 f.Num, .int .i64 f.Den]] w fun e w' => e = .returned (.bool (chB f)) ∧ Below w.heap.size w w' := by
  have E := Lib.hid (show chB f = (inB f.Den 1 1000 && inB f.Num 0 f.Den) from rfl)
  rcases Bool.eq_false_or_eq_true (inB f.Den 1 1000) with g | g
  · have G := Lib.hid g; clear g
    go_enter Try.func62, Try.ntmps62
    go_wp2_with fail
    refine (asB (within_any _ _ _ _) G.out).mono ?_; rintro e w' ⟨rfl, rfl⟩
    go_wp2_with fail
    refine (within_any _ _ _ _).mono ?_; rintro e w' ⟨rfl, rfl⟩
    go_wp2_with fail
    go_ret
    exact ⟨ret_bool (by rw [E.out, G.out]; simp), by go_grown⟩
  · have G := Lib.hid g; clear g
    go_enter Try.func62, Try.ntmps62
    go_wp2_with fail
    refine (asB (within_any _ _ _ _) G.out).mono ?_; rintro e w' ⟨rfl, rfl⟩
    go_wp2_with fail
    go_ret
    exact ⟨ret_bool (by rw [E.out, G.out]; simp), by go_grown⟩

theorem mul_wrap {a b : Int} (ha : 0 ≤ a) (ha' : a ≤ 330000000000000) (hb : 0 ≤ b) (hb' : b ≤ 1000) : wrap64 (a * b) = a * b := by
  have h1 : 0 ≤ a * b := Int.mul_nonneg ha hb
  have h2 : a * b ≤ 330000000000000 * 1000 := Int.mul_le_mul ha' hb' hb (by decide)
  exact IntWalk.wrap64_in _ ⟨Int.le_trans (by decide) h1, Int.le_trans h2 (by decide)⟩
theorem mul_wrap' {a b : Int} (ha : 0 ≤ a) (ha' : a ≤ 330000000000000) (hb : 0 ≤ b) (hb' : b ≤ 1000) : wrap64 (b * a) = b * a := by
  rw [Int.mul_comm]; exact mul_wrap ha ha' hb hb'
theorem passN_bound {l k t a : Nat} (hl : l ≤ 60) (hk : k ≤ l) (ht : t ≤ 10) (htl : t ≤ l) (hat : a ≤ t) : 0 ≤ passN l k t a ∧ passN l k t a ≤ 330000000000000 := by
  have hall := sumC_flat hl hk ht (Nat.succ_le_succ hat)
  have hg := gcd_pos' (a := sumC l k t (a + 1)) (choose_pos hl ht htl)
  have h := quot_facts (sumC l k t (a + 1)) hg
  exact ⟨h.1, Int.le_trans h.2 hall⟩
theorem passD_bound {l k t a : Nat} (hl : l ≤ 60) (hk : k ≤ l) (ht : t ≤ 10) (htl : t ≤ l) (hat : a ≤ t) : 0 ≤ passD l k t a ∧ passD l k t a ≤ 330000000000000 := by
  have htop := choose_flat hl ht
  have hg := gcd_pos' (a := sumC l k t (a + 1)) (choose_pos hl ht htl)
  have h := quot_facts (chooseN l t) hg
  exact ⟨h.1, Int.le_trans h.2 (Int.le_trans htop (by decide))⟩

set_option maxHeartbeats 400000 in
theorem l19Less_any (an ad bn bd : Int) (w : World) (h1 : wrap64 (an * bd) = an * bd) (h2 : wrap64 (bn * ad) = bn * ad) :
    Calls Try.prog 61 #[.agg #[.int .i64 an, .int .i64 ad], .agg #[.int .i64 bn, .int .i64 bd]] w fun e w' => e = .returned (.bool (decide (an * bd < bn * ad))) ∧ Below w.heap.size w w' := by
  go_enter Try.func61, Try.ntmps61
  go_wp2
  go_ret
  exact ⟨rfl, by go_grown⟩

def wkC (lot tested allowed : Int) (f : Fraction) : Int := if chB f = true then lotC lot 0 tested allowed else 2
def wkP (l t a : Nat) (f : Fraction) (j : Nat) : Bool := decide (passN l (j + 1) t a * f.Den < f.Num * passD l (j + 1) t a)
def wkF (lot tested allowed : Int) (f : Fraction) : Int × Int :=
  if wkC lot tested allowed f = 0 then (((firstN (wkP lot.toNat tested.toNat allowed.toNat f) lot.toNat : Nat) : Int), 0) else (0, wkC lot tested allowed f)

set_option maxHeartbeats 2000000 in
theorem specWeakUntil_any (lot tested allowed : Int) (f : Fraction) (w : World) :
    Calls Try.prog 30 #[.int .i64 lot, .int .i64 tested, .int .i64 allowed, .agg #[.int .i64 f.Num, .int .i64 f.Den]] w (Two (wkF lot tested allowed f) w) := by
  rcases Bool.eq_false_or_eq_true (chB f) with gf | gf
  · by_cases g : lotC lot 0 tested allowed = 0
    · obtain ⟨ha, hb, hc⟩ := lotC_zero g
      obtain ⟨l, k0, rfl, hk0, hl, hk⟩ := lotB_nat ha
      obtain ⟨t, a, rfl, rfl, ht, hat, h1⟩ := testB_nat hb
      have htl : t ≤ l := by omega
      have E := Lib.hid (show wkF (l : Int) t a f = (((firstN (wkP l t a f) l : Nat) : Int), 0) by rw [wkF, wkC, if_pos gf, if_pos g]; rfl)
      obtain ⟨f0, f1, f2, f3⟩ := chB_parts gf
      have G := Lib.hid g; have GF := Lib.hid gf; clear g gf ha hb hc hk0 hk
      go_enter Try.func30, Try.ntmps30
      go_wp2_with fail
      refine (l19Lot_any _ _ _ _ _).mono ?_; rw [G.out]; rintro e w' ⟨rfl, rfl⟩
      go_wp2_with fail
      (refine (asB (l19Fraction_any f _) GF.out).mono ?_; rintro e w1 ⟨rfl, hb1⟩; obtain ⟨hc1, hf1⟩ := bcell hb1; have hz1 := hb1.size; (try simp only [World.size_alloc] at hz1); (try simp only [World.size_setCell] at hz1); (try simp only [World.size_drew] at hz1); (try have L1 : w.heap.size < w1.heap.size := by omega); have B1 : Below w.heap.size w w1 := bel_tr (by first | (go_grown; done) | (go_split_ands; assumption)) hb1)
      go_wp2_with fail
      have c0 : w1.cell? ⟨w.heap.size, 0, none⟩ = some (.int .i64 f.Num) := by go_simp
      have c1 : w1.cell? ⟨w.heap.size, 1, none⟩ = some (.int .i64 f.Den) := by go_simp
      clear hc1 hf1 hb1
      go_loopw [11, 12] (fun u v wr => ∃ b v' : Nat, b ≤ l ∧ v' = b + 1 ∧ v = .int .i64 v' ∧ u = .int .i64 b ∧ NoneB (wkP l t a f) b ∧ Below w.heap.size w wr ∧ wr.cell? ⟨w.heap.size, 0, none⟩ = some (.int .i64 f.Num) ∧ wr.cell? ⟨w.heap.size, 1, none⟩ = some (.int .i64 f.Den) ∧ w.heap.size < wr.heap.size) (fun _ v _ => l + 1 - (intOf v).toNat)
      case atStart => exact ⟨0, 1, Nat.zero_le _, rfl, rfl, rfl, NoneB.zero _, B1, c0, c1, L1⟩
      case round =>
        obtain ⟨b, v, hbl, hv, rfl, rfl, hn, hB, d0, d1, hL⟩ := hrel
        have HV := Lib.hid hv
        have HN := Lib.hid hn; clear hn
        have hv1 : v ≤ l + 1 := by omega
        have hv2 : b + 1 ≤ v := by omega
        have hv3 : v ≤ b + 1 := by omega
        clear hv
        by_cases hlt : v ≤ l
        · obtain ⟨n0, n1⟩ := passN_bound (k := v) hl hlt ht htl hat
          obtain ⟨m0, m1⟩ := passD_bound (k := v) hl hlt ht htl hat
          have W1 := Lib.hid (mul_wrap n0 n1 (show 0 ≤ f.Den by omega) f3)
          have W2 := Lib.hid (mul_wrap' m0 m1 f0 f1)
          have HP := Lib.hid (show wkP l t a f b = decide (passN l v t a * f.Den < f.Num * passD l v t a) by rw [wkP, HV.out])
          have C := fun W => l19Chance_any l v t a W hl hlt ht htl hat
          have HC := Lib.hid C; clear C n0 n1 m0 m1
          obtain ⟨x, hx⟩ : ∃ x, decide (passN l v t a * f.Den < f.Num * passD l v t a) = x := ⟨_, rfl⟩
          have HX := Lib.hid hx; clear hx
          cases x
          · go_wp2_with fail
            go_region_held3 (fun w' => w'.cell? ⟨w.heap.size, 0, none⟩ = some (.int .i64 f.Num) ∧ w'.cell? ⟨w.heap.size, 1, none⟩ = some (.int .i64 f.Den) ∧ w.heap.size < w'.heap.size ∧ Below wr.heap.size wr w')
              ((try refine ⟨?_, ?_, ?_, ?_⟩) <;> (first | go_keep | (go_grown; done) | (go_split_ands; first | exact (hb1.cell (p := ⟨_, _, none⟩) (by assumption)).trans (by assumption) | exact Nat.lt_of_lt_of_le (by assumption) hb1.size | exact bel_tr (by assumption) hb1)))
              (first | (go_at_call 55; refine (HC.out _).mono ?_; rintro e w1 ⟨rfl, hb1⟩) | (go_at_call 61; refine (asB (l19Less_any (passN l v t a) (passD l v t a) f.Num f.Den _ W1.out W2.out) HX.out).mono ?_; rintro e w1 ⟨rfl, hb1⟩))
            all_goals
              go_wp2
              go_roundw
              case rel => exact ⟨v, v + 1, by omega, rfl, by go_num, rfl, by rw [HV.out]; exact HN.out.succ (by rw [HP.out, HX.out]), bel_tr hB (by go_split_ands; assumption), by go_split_ands; assumption, by go_split_ands; assumption, by go_split_ands; assumption⟩
              case measure => simp [intOf]; omega
          · go_wp2_with fail
            go_region_held3 (fun w' => w'.cell? ⟨w.heap.size, 0, none⟩ = some (.int .i64 f.Num) ∧ w'.cell? ⟨w.heap.size, 1, none⟩ = some (.int .i64 f.Den) ∧ w.heap.size < w'.heap.size ∧ Below wr.heap.size wr w')
              ((try refine ⟨?_, ?_, ?_, ?_⟩) <;> (first | go_keep | (go_grown; done) | (go_split_ands; first | exact (hb1.cell (p := ⟨_, _, none⟩) (by assumption)).trans (by assumption) | exact Nat.lt_of_lt_of_le (by assumption) hb1.size | exact bel_tr (by assumption) hb1)))
              (first | (go_at_call 55; refine (HC.out _).mono ?_; rintro e w1 ⟨rfl, hb1⟩) | (go_at_call 61; refine (asB (l19Less_any (passN l v t a) (passD l v t a) f.Num f.Den _ W1.out W2.out) HX.out).mono ?_; rintro e w1 ⟨rfl, hb1⟩))
            all_goals
              go_wp2
              go_ret2
              exact Two.mk (by rw [E.out, firstN_some (by omega) (by rw [HP.out, HX.out]) HN.out]) (bel_tr hB (by go_split_ands; assumption))
        · obtain rfl : l = b := by omega
          go_wp2
          go_ret2
          exact Two.mk (by rw [E.out, firstN_none HN.out]) hB
    · have E := Lib.hid (show wkF lot tested allowed f = (0, lotC lot 0 tested allowed) by rw [wkF, wkC, if_pos gf, if_neg g])
      have hne : (lotC lot 0 tested allowed != 0) = true := by simpa using g
      have GF := Lib.hid gf; clear g gf
      go_enter Try.func30, Try.ntmps30
      go_wp2_with fail
      refine (l19Lot_any _ _ _ _ _).mono ?_; rintro e w' ⟨rfl, rfl⟩
      go_wp2_with fail
      (refine (asB (l19Fraction_any f _) GF.out).mono ?_; rintro e w1 ⟨rfl, hb1⟩; obtain ⟨hc1, hf1⟩ := bcell hb1; have hz1 := hb1.size; (try simp only [World.size_alloc] at hz1); (try simp only [World.size_setCell] at hz1); (try simp only [World.size_drew] at hz1); (try have L1 : w.heap.size < w1.heap.size := by omega); have B1 : Below w.heap.size w w1 := bel_tr (by first | (go_grown; done) | (go_split_ands; assumption)) hb1)
      go_wp2_with fail
      go_ret2
      exact Two.mk E.out B1
  · have E := Lib.hid (show wkF lot tested allowed f = (0, 2) by rw [wkF, wkC, gf]; rfl)
    have GF := Lib.hid gf; clear gf
    go_enter Try.func30, Try.ntmps30
    go_wp2_with fail
    refine (l19Lot_any _ _ _ _ _).mono ?_; rintro e w' ⟨rfl, rfl⟩
    go_wp2_with fail
    (refine (asB (l19Fraction_any f _) GF.out).mono ?_; rintro e w1 ⟨rfl, hb1⟩; obtain ⟨hc1, hf1⟩ := bcell hb1; have hz1 := hb1.size; (try simp only [World.size_alloc] at hz1); (try simp only [World.size_setCell] at hz1); (try simp only [World.size_drew] at hz1); (try have L1 : w.heap.size < w1.heap.size := by omega); have B1 : Below w.heap.size w w1 := bel_tr (by first | (go_grown; done) | (go_split_ands; assumption)) hb1)
    go_wp2_with fail
    go_ret2
    exact Two.mk E.out B1

theorem passC_any (l k t a : Nat) (w : World) (hl : l ≤ 60) (hk : k ≤ l) (ht : t ≤ 10) (htl : t ≤ l) (hat : a ≤ t) :
    Calls Try.prog 58 #[.int .i64 l, .int .i64 k, .int .i64 t, .int .i64 a] w
      fun e w' => e = .returned (.agg #[.int .i64 (passN l k t a), .int .i64 (passD l k t a)]) ∧ Below w.heap.size w w' := passChance_any l k t a w hl hk ht htl hat

set_option maxHeartbeats 2000000 in
theorem implWeakUntil_any (lot tested allowed : Int) (f : Fraction) (w : World) :
    Calls Try.prog 31 #[.int .i64 lot, .int .i64 tested, .int .i64 allowed, .agg #[.int .i64 f.Num, .int .i64 f.Den]] w (Two (wkF lot tested allowed f) w) := by
  rcases Bool.eq_false_or_eq_true (lotB lot 0) with ga | ga
  · rcases Bool.eq_false_or_eq_true (testB tested allowed) with gb | gb
    · rcases Bool.eq_false_or_eq_true (chB f) with gf | gf
      · by_cases gt : lot < tested
        · have E := Lib.hid (show wkF lot tested allowed f = (0, 6) by
            have h : lotC lot 0 tested allowed = 6 := by rw [lotC, ga, gb]; simp [gt]
            rw [wkF, wkC, if_pos gf, h]; rfl)
          have GA := Lib.hid ga; have GB := Lib.hid gb; have GF := Lib.hid gf; clear ga gb gf
          go_enter Try.func31, Try.ntmps31
          go_wp2_with fail
          refine (asB (isLot_any _ _ _) GA.out).mono ?_; rintro e w' ⟨rfl, rfl⟩
          go_wp2_with fail
          refine (asB (isTest_any _ _ _) GB.out).mono ?_; rintro e w' ⟨rfl, rfl⟩
          go_wp2_with fail
          (refine (asB (isChance_any f _) GF.out).mono ?_; rintro e w1 ⟨rfl, hb1⟩; obtain ⟨hc1, hf1⟩ := bcell hb1; have hz1 := hb1.size; (try simp only [World.size_alloc] at hz1); (try simp only [World.size_setCell] at hz1); (try simp only [World.size_drew] at hz1); (try have L1 : w.heap.size < w1.heap.size := by omega); have B1 : Below w.heap.size w w1 := bel_tr (by first | (go_grown; done) | (go_split_ands; assumption)) hb1)
          go_wp2_with fail
          go_ret2
          exact Two.mk E.out B1
        · have g : lotC lot 0 tested allowed = 0 := by rw [lotC, ga, gb]; simp [gt]
          have GA := Lib.hid ga; have GB := Lib.hid gb
          obtain ⟨l, k0, rfl, hk0, hl, hk⟩ := lotB_nat ga
          obtain ⟨t, a, rfl, rfl, ht, hat, h1⟩ := testB_nat gb
          have htl : t ≤ l := by omega
          have gd : decide (l < t) = false := by simp; omega
          clear gt
          have E := Lib.hid (show wkF (l : Int) t a f = (((firstN (wkP l t a f) l : Nat) : Int), 0) by rw [wkF, wkC, if_pos gf, if_pos g]; rfl)
          obtain ⟨f0, f1, f2, f3⟩ := chB_parts gf
          have GF := Lib.hid gf; clear g ga gb gf hk0 hk
          go_enter Try.func31, Try.ntmps31
          go_wp2_with fail
          refine (asB (isLot_any _ _ _) GA.out).mono ?_; rintro e w' ⟨rfl, rfl⟩
          go_wp2_with fail
          refine (asB (isTest_any _ _ _) GB.out).mono ?_; rintro e w' ⟨rfl, rfl⟩
          go_wp2_with fail
          (refine (asB (isChance_any f _) GF.out).mono ?_; rintro e w1 ⟨rfl, hb1⟩; obtain ⟨hc1, hf1⟩ := bcell hb1; have hz1 := hb1.size; (try simp only [World.size_alloc] at hz1); (try simp only [World.size_setCell] at hz1); (try simp only [World.size_drew] at hz1); (try have L1 : w.heap.size < w1.heap.size := by omega); have B1 : Below w.heap.size w w1 := bel_tr (by first | (go_grown; done) | (go_split_ands; assumption)) hb1)
          go_wp2_with fail
          have c0 : w1.cell? ⟨w.heap.size, 0, none⟩ = some (.int .i64 f.Num) := by go_simp
          have c1 : w1.cell? ⟨w.heap.size, 1, none⟩ = some (.int .i64 f.Den) := by go_simp
          clear hc1 hf1 hb1
          go_loopw [10] (fun u wr => ∃ b : Nat, b ≤ l ∧ u = .int .i64 b ∧ NoneB (wkP l t a f) b ∧ Below w.heap.size w wr ∧ wr.cell? ⟨w.heap.size, 0, none⟩ = some (.int .i64 f.Num) ∧ wr.cell? ⟨w.heap.size, 1, none⟩ = some (.int .i64 f.Den) ∧ w.heap.size < wr.heap.size) (fun u _ => l - (intOf u).toNat)
          case atStart => exact ⟨0, Nat.zero_le _, rfl, NoneB.zero _, B1, c0, c1, L1⟩
          case round =>
            obtain ⟨b, hbl, rfl, hn, hB, d0, d1, hL⟩ := hrel
            have HN := Lib.hid hn; clear hn
            by_cases hlt : b < l
            · obtain ⟨n0, n1⟩ := passN_bound (k := b + 1) hl hlt ht htl hat
              obtain ⟨m0, m1⟩ := passD_bound (k := b + 1) hl hlt ht htl hat
              have W1 := mul_wrap n0 n1 (show 0 ≤ f.Den by omega) f3
              have W2 := mul_wrap' m0 m1 f0 f1
              have HP := Lib.hid (show wkP l t a f b = decide (passN l (b + 1) t a * f.Den < f.Num * passD l (b + 1) t a) from rfl)
              have C := fun W => passC_any l (b + 1) t a W hl hlt ht htl hat
              rw [show ((b + 1 : Nat) : Int) = (b : Int) + 1 by simp] at C
              have HC := Lib.hid C; clear C n0 n1 m0 m1
              rcases Bool.eq_false_or_eq_true (decide (passN l (b + 1) t a * f.Den < f.Num * passD l (b + 1) t a)) with x | x
              · have X := Lib.hid x
                go_wp2_with fail
                refine (HC.out _).mono ?_; rintro e w2 ⟨rfl, hb2⟩; obtain ⟨hc2, hf2⟩ := bcell hb2; have hz2 := hb2.size
                have B2 : Below w.heap.size w w2 := bel_tr hB hb2
                have k0 : w2.cell? ⟨w.heap.size, 0, none⟩ = some (.int .i64 f.Num) := by go_simp
                have k1 : w2.cell? ⟨w.heap.size, 1, none⟩ = some (.int .i64 f.Den) := by go_simp
                have L2 : w.heap.size < w2.heap.size := by omega
                clear hc2 hf2
                go_wp2_with fail
                go_ret2
                exact Two.mk (by rw [E.out, firstN_some hlt (by rw [HP.out, X.out]) HN.out]) (by go_grown)
              · have X := Lib.hid x
                go_wp2_with fail
                refine (HC.out _).mono ?_; rintro e w2 ⟨rfl, hb2⟩; obtain ⟨hc2, hf2⟩ := bcell hb2; have hz2 := hb2.size
                have B2 : Below w.heap.size w w2 := bel_tr hB hb2
                have k0 : w2.cell? ⟨w.heap.size, 0, none⟩ = some (.int .i64 f.Num) := by go_simp
                have k1 : w2.cell? ⟨w.heap.size, 1, none⟩ = some (.int .i64 f.Den) := by go_simp
                have L2 : w.heap.size < w2.heap.size := by omega
                clear hc2 hf2
                go_wp2_with fail
                go_roundw
                case rel => exact ⟨b + 1, by omega, by go_num, HN.out.succ (by rw [HP.out, X.out]), by go_grown, by go_simp, by go_simp, by simp; omega⟩
                case measure => simp [intOf]; omega
            · obtain rfl : l = b := by omega
              go_wp2
              go_ret2
              exact Two.mk (by rw [E.out, firstN_none HN.out]) hB
      · have E := Lib.hid (show wkF lot tested allowed f = (0, 2) by rw [wkF, wkC, gf]; rfl)
        have GA := Lib.hid ga; have GB := Lib.hid gb; have GF := Lib.hid gf; clear ga gb gf
        go_enter Try.func31, Try.ntmps31
        go_wp2_with fail
        refine (asB (isLot_any _ _ _) GA.out).mono ?_; rintro e w' ⟨rfl, rfl⟩
        go_wp2_with fail
        refine (asB (isTest_any _ _ _) GB.out).mono ?_; rintro e w' ⟨rfl, rfl⟩
        go_wp2_with fail
        (refine (asB (isChance_any f _) GF.out).mono ?_; rintro e w1 ⟨rfl, hb1⟩; obtain ⟨hc1, hf1⟩ := bcell hb1; have hz1 := hb1.size; (try simp only [World.size_alloc] at hz1); (try simp only [World.size_setCell] at hz1); (try simp only [World.size_drew] at hz1); (try have L1 : w.heap.size < w1.heap.size := by omega); have B1 : Below w.heap.size w w1 := bel_tr (by first | (go_grown; done) | (go_split_ands; assumption)) hb1)
        go_wp2_with fail
        go_ret2
        exact Two.mk E.out B1
    · have E := Lib.hid (show wkF lot tested allowed f = (0, 2) by
        have h : lotC lot 0 tested allowed = 2 := by rw [lotC, gb]; simp
        rw [wkF, wkC, h]; simp)
      have GA := Lib.hid ga; have GB := Lib.hid gb; clear ga gb
      go_enter Try.func31, Try.ntmps31
      go_wp2_with fail
      refine (asB (isLot_any _ _ _) GA.out).mono ?_; rintro e w' ⟨rfl, rfl⟩
      go_wp2_with fail
      refine (asB (isTest_any _ _ _) GB.out).mono ?_; rintro e w' ⟨rfl, rfl⟩
      go_wp2_with fail
      go_ret2
      exact Two.mk E.out (by go_grown)
  · have E := Lib.hid (show wkF lot tested allowed f = (0, 2) by
      have h : lotC lot 0 tested allowed = 2 := by rw [lotC, ga]; simp
      rw [wkF, wkC, h]; simp)
    have GA := Lib.hid ga; clear ga
    go_enter Try.func31, Try.ntmps31
    go_wp2_with fail
    refine (asB (isLot_any _ _ _) GA.out).mono ?_; rintro e w' ⟨rfl, rfl⟩
    go_wp2_with fail
    go_ret2
    exact Two.mk E.out (by go_grown)
end Go.Proofs.Ytnibggkjgpgljaa
