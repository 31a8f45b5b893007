/- The contracts of PassChance, the reference's and the program's. -/
import Derived.Test.YtnibggkjgpgljaaT5
namespace Go.Proofs.Ytnibggkjgpgljaa
open Go.RowKit
set_option linter.unusedVariables false

def passN (lot weak tested allowed : Nat) : Int := lowN (sumC lot weak tested (allowed + 1)) (chooseN lot tested)
def passD (lot weak tested allowed : Nat) : Int := lowD (sumC lot weak tested (allowed + 1)) (chooseN lot tested)
def passF (lot weak tested allowed : Int) : Int × Int × Int :=
  if lotC lot weak tested allowed = 0 then (passN lot.toNat weak.toNat tested.toNat allowed.toNat, passD lot.toNat weak.toNat tested.toNat allowed.toNat, 0) else (0, 0, lotC lot weak tested allowed)
theorem lotC_zero {lot weak tested allowed : Int} (h : lotC lot weak tested allowed = 0) : lotB lot weak = true ∧ testB tested allowed = true ∧ ¬ lot < tested := by
  rw [lotC] at h
  split at h
  · rename_i h1
    split at h
    · omega
    · rename_i h2
      rw [Bool.and_eq_true] at h1
      exact ⟨h1.1, h1.2, h2⟩
  · omega
theorem lotB_nat {lot weak : Int} (h : lotB lot weak = true) : ∃ l k : Nat, lot = l ∧ weak = k ∧ l ≤ 60 ∧ k ≤ l := by
  simp only [lotB, Bool.and_eq_true, inB_true] at h
  obtain ⟨⟨h1, h2⟩, h3, h4⟩ := h
  exact ⟨lot.toNat, weak.toNat, by omega, by omega, by omega, by omega⟩
theorem testB_nat {tested allowed : Int} (h : testB tested allowed = true) : ∃ l k : Nat, tested = l ∧ allowed = k ∧ l ≤ 10 ∧ k ≤ l ∧ 1 ≤ l := by
  simp only [testB, Bool.and_eq_true, inB_true] at h
  obtain ⟨⟨h1, h2⟩, h3, h4⟩ := h
  exact ⟨tested.toNat, allowed.toNat, by omega, by omega, by omega, by omega, by omega⟩

set_option maxHeartbeats 1000000 in
theorem specPassChance_any (lot weak tested allowed : Int) (w : World) :
    Calls Try.prog 22 #[.int .i64 lot, .int .i64 weak, .int .i64 tested, .int .i64 allowed] w (FrC (passF lot weak tested allowed) w) := by
  by_cases g : lotC lot weak tested allowed = 0
  · obtain ⟨ha, hb, hc⟩ := lotC_zero g
    obtain ⟨l, k, rfl, rfl, hl, hk⟩ := lotB_nat ha
    obtain ⟨t, a, rfl, rfl, ht, hat, h1⟩ := testB_nat hb
    have htl : t ≤ l := by omega
    have E := Lib.hid (show passF (l : Int) k t a = (passN l k t a, passD l k t a, 0) by rw [passF, if_pos g]; simp)
    have G := Lib.hid g; clear g ha hb hc
    go_enter Try.func22, Try.ntmps22
    go_wp2_with fail
    refine (l19Lot_any _ _ _ _ _).mono ?_; rw [G.out]; rintro e w' ⟨rfl, rfl⟩
    go_wp2_with fail
    refine (l19Chance_any l k t a _ hl hk ht htl hat).mono ?_; rintro e w1 ⟨rfl, hb1⟩
    obtain ⟨hc1, hf1⟩ := bcell hb1
    have hz1 := hb1.size
    simp only [World.size_alloc] at hz1
    have H1 : Below w.heap.size w w1 := bel_tr (by go_grown) hb1
    go_wp2_with fail
    refine bodyPost_ret (v := .tuple #[.agg #[.int .i64 (passN l k t a), .int .i64 (passD l k t a)], .int .i64 0]) (by simp [results, Try.results22, go_sem, hc1, passN, passD]) rfl (FrC.mk E.out ((H1.setCell (Nat.le_refl _) _).setCell (Nat.le_refl _) _))
  · have E := Lib.hid (show passF lot weak tested allowed = (0, 0, lotC lot weak tested allowed) by rw [passF, if_neg g])
    have hne : (lotC lot weak tested allowed != 0) = true := by simpa using g
    clear g
    go_enter Try.func22, Try.ntmps22
    go_wp2_with fail
    refine (l19Lot_any _ _ _ _ _).mono ?_; rintro e w' ⟨rfl, rfl⟩
    go_wp2_with fail
    refine bodyPost_ret (v := .tuple #[.agg #[.int .i64 0, .int .i64 0], .int .i64 (lotC lot weak tested allowed)]) (by simp [results, Try.results22, go_sem]) rfl (FrC.mk E.out (by go_grown))

set_option maxHeartbeats 1000000 in
theorem implPassChance_any (lot weak tested allowed : Int) (w : World) :
    Calls Try.prog 23 #[.int .i64 lot, .int .i64 weak, .int .i64 tested, .int .i64 allowed] w (FrC (passF lot weak tested allowed) w) := by
  by_cases g : lotC lot weak tested allowed = 0
  · obtain ⟨ha, hb, hc⟩ := lotC_zero g
    have HA := Lib.hid ha; have HB := Lib.hid hb
    obtain ⟨l, k, rfl, rfl, hl, hk⟩ := lotB_nat ha
    obtain ⟨t, a, rfl, rfl, ht, hat, h1⟩ := testB_nat hb
    have htl : t ≤ l := by omega
    have E := Lib.hid (show passF (l : Int) k t a = (passN l k t a, passD l k t a, 0) by rw [passF, if_pos g]; simp)
    clear g ha hb hc
    go_enter Try.func23, Try.ntmps23
    go_wp2_with fail
    refine (asB (isLot_any _ _ _) HA.out).mono ?_; rintro e w' ⟨rfl, rfl⟩
    go_wp2_with fail
    refine (asB (isTest_any _ _ _) HB.out).mono ?_; rintro e w' ⟨rfl, rfl⟩
    go_wp2_with fail
    refine (passChance_any l k t a _ hl hk ht htl hat).mono ?_; rintro e w1 ⟨rfl, hb1⟩
    obtain ⟨hc1, hf1⟩ := bcell hb1
    have hz1 := hb1.size
    simp only [World.size_alloc] at hz1
    have H1 : Below w.heap.size w w1 := bel_tr (by go_grown) hb1
    go_wp2_with fail
    refine bodyPost_ret (v := .tuple #[.agg #[.int .i64 (passN l k t a), .int .i64 (passD l k t a)], .int .i64 0]) (by simp [results, Try.results23, go_sem, hc1, passN, passD]) rfl (FrC.mk E.out ((H1.setCell (Nat.le_refl _) _).setCell (Nat.le_refl _) _))
  · have E := Lib.hid (show passF lot weak tested allowed = (0, 0, lotC lot weak tested allowed) by rw [passF, if_neg g])
    rcases Bool.eq_false_or_eq_true (lotB lot weak) with g1 | g1
    · rcases Bool.eq_false_or_eq_true (testB tested allowed) with g2 | g2
      · have hlt : lot < tested := by
          rcases Int.lt_or_le lot tested with h | h
          · exact h
          · exact absurd (by rw [lotC, g1, g2]; simp; omega) g
        have R := Lib.hid (show lotC lot weak tested allowed = 6 by rw [lotC, g1, g2]; simp [hlt])
        have G1 := Lib.hid g1; have G2 := Lib.hid g2; clear g g1 g2
        go_enter Try.func23, Try.ntmps23
        go_wp2_with fail
        refine (asB (isLot_any _ _ _) G1.out).mono ?_; rintro e w' ⟨rfl, rfl⟩
        go_wp2_with fail
        refine (asB (isTest_any _ _ _) G2.out).mono ?_; rintro e w' ⟨rfl, rfl⟩
        go_wp2_with fail
        refine bodyPost_ret (v := .tuple #[.agg #[.int .i64 0, .int .i64 0], .int .i64 6]) (by simp [results, Try.results23, go_sem]) rfl (FrC.mk (by rw [E.out, R.out]) (by go_grown))
      · have R := Lib.hid (show lotC lot weak tested allowed = 2 by rw [lotC, g2]; simp)
        have G1 := Lib.hid g1; have G2 := Lib.hid g2; clear g g1 g2
        go_enter Try.func23, Try.ntmps23
        go_wp2_with fail
        refine (asB (isLot_any _ _ _) G1.out).mono ?_; rintro e w' ⟨rfl, rfl⟩
        go_wp2_with fail
        refine (asB (isTest_any _ _ _) G2.out).mono ?_; rintro e w' ⟨rfl, rfl⟩
        go_wp2_with fail
        refine bodyPost_ret (v := .tuple #[.agg #[.int .i64 0, .int .i64 0], .int .i64 2]) (by simp [results, Try.results23, go_sem]) rfl (FrC.mk (by rw [E.out, R.out]) (by go_grown))
    · have R := Lib.hid (show lotC lot weak tested allowed = 2 by rw [lotC, g1]; simp)
      have G1 := Lib.hid g1; clear g g1
      go_enter Try.func23, Try.ntmps23
      go_wp2_with fail
      refine (asB (isLot_any _ _ _) G1.out).mono ?_; rintro e w' ⟨rfl, rfl⟩
      go_wp2_with fail
      refine bodyPost_ret (v := .tuple #[.agg #[.int .i64 0, .int .i64 0], .int .i64 2]) (by simp [results, Try.results23, go_sem]) rfl (FrC.mk (by rw [E.out, R.out]) (by go_grown))
end Go.Proofs.Ytnibggkjgpgljaa
