/- The contracts of BatchesWith, the reference's and the program's. -/
import Derived.Test.YtmapjepdcbpalaaGreatDoorB2
import Derived.Test.YtmapjepdcbpalaaGreatDoorLs
namespace Go.Proofs.YtmapjepdcbpalaaGreatDoor
open Go.RowKit
set_option linter.unusedVariables false

/-- Those of the first k numbers that are so. -/
def idxL (p : Nat → Bool) : Nat → List Int
  | 0 => []
  | k + 1 => idxL p k ++ (if p k = true then [(k : Int)] else [])
theorem idxL_len (p : Nat → Bool) : ∀ k, (idxL p k).length ≤ k := by
  intro k
  induction k with
  | zero => simp [idxL]
  | succ k ih => rw [idxL, List.length_append]; split <;> simp <;> omega
theorem idxL_yes {p : Nat → Bool} {k : Nat} (h : p k = true) : (idxL p (k + 1)).map (Value.int .i64) = (idxL p k).map (Value.int .i64) ++ [.int .i64 (k : Int)] := by
  rw [idxL, if_pos h, List.map_append]; rfl
theorem idxL_no {p : Nat → Bool} {k : Nat} (h : p k = false) : idxL p (k + 1) = idxL p k := by rw [idxL, h]; simp

theorem batchesOk_len {xs : List Batch} (h : batchesOk xs = true) : xs.length ≤ 40 := by
  simp only [batchesOk, Bool.and_eq_true, decide_eq_true_eq] at h
  exact h.2
def bwC (xs : List Batch) (c : Cause) : Int := if batchesOk xs = true then (if causeB c = true then 0 else 2) else 1
def bwL (xs : List Batch) (c : Cause) : List Int := if bwC xs c = 0 then idxL (fun k => hasB (nt xs k) c) xs.length else []

set_option maxHeartbeats 4000000 in
theorem specBatchesWith_any (A : Option Addr) (n cp : Nat) (xs : List Batch) (c : Cause) (w : World) (hA : BatchS w A n xs) :
    Calls Tryz.prog 28 #[.slice A n cp, .agg #[.int .i64 c.Kind, .int .i64 c.Number]] w (ListC (bwL xs c) (bwC xs c) w) := by
  have hn := hA.bound
  rcases Bool.eq_false_or_eq_true (batchesOk xs) with g | g
  · rcases Bool.eq_false_or_eq_true (causeB c) with g1 | g1
    · have R := Lib.hid (show bwC xs c = 0 by rw [bwC, if_pos g, if_pos g1])
      have E := Lib.hid (show bwL xs c = idxL (fun k => hasB (nt xs k) c) n by rw [bwL, if_pos R.out, hA.len])
      have h40 := batchesOk_len g
      rw [hA.len] at h40
      have L := Lib.hid hA.len
      have G := Lib.hid g; have G1 := Lib.hid g1; clear g g1
      go_enter Tryz.func28, Tryz.ntmps28
      go_wp2_with fail
      (refine (asB (l18Ok_any _ _ _ xs _ (hA.below (by first | (go_grown; done) | (go_split_ands; assumption)))) G.out).mono ?_; rintro e w1 ⟨rfl, hb1⟩; obtain ⟨hc1, hf1⟩ := bcell hb1; have hz1 := hb1.size; (try simp only [World.size_alloc] at hz1); (try simp only [World.size_setCell] at hz1); (try simp only [World.size_drew] at hz1); (try have L1 : w.heap.size < w1.heap.size := by omega); have B1 : Below w.heap.size w w1 := bel_tr (by first | (go_grown; done) | (go_split_ands; assumption)) hb1)
      have e0 : w1.cell? ⟨w.heap.size, 0, none⟩ = some (.int .i64 c.Kind) := by rw [hc1 _ _ (by simp)]; go_simp
      have e1 : w1.cell? ⟨w.heap.size, 1, none⟩ = some (.int .i64 c.Number) := by rw [hc1 _ _ (by simp)]; go_simp
      clear hc1 hf1
      go_wp2_with fail
      (refine (asB (l18Cause_any c _) G1.out).mono ?_; rintro e w2 ⟨rfl, hb2⟩; obtain ⟨hc2, hf2⟩ := bcell hb2; have hz2 := hb2.size; (try simp only [World.size_alloc] at hz2); (try simp only [World.size_setCell] at hz2); (try simp only [World.size_drew] at hz2); (try have L2 : w.heap.size < w2.heap.size := by omega); have B2 : Below w.heap.size w w2 := bel_tr (by first | (go_grown; done) | (go_split_ands; assumption)) hb2)
      have c0 : w2.cell? ⟨w.heap.size, 0, none⟩ = some (.int .i64 c.Kind) := (hb2.cell (p := ⟨w.heap.size, 0, none⟩) L1).trans e0
      have c1 : w2.cell? ⟨w.heap.size, 1, none⟩ = some (.int .i64 c.Number) := (hb2.cell (p := ⟨w.heap.size, 1, none⟩) L1).trans e1
      clear hc2 hf2 e0 e1
      go_wp2_with fail
      go_loopw [6, 7] (fun v i wr => ∃ k : Nat, k ≤ n ∧ i = .int .i64 k ∧ OwnS wr (w.heap.size + 1) 2 v ((idxL (fun k => hasB (nt xs k) c) k).map (.int .i64)) ∧ Below (w.heap.size + 1) w2 wr) (fun _ i _ => n - (intOf i).toNat)
      case atStart => exact ⟨0, Nat.zero_le _, rfl, OwnS.made' (by omega) rfl, (Below.refl _ _).alloc (by omega) _⟩
      case round =>
        obtain ⟨k, hk, rfl, hO, hB2⟩ := hrel
        have HO := Lib.hid hO; clear hO
        have v0 := (hB2.cell (p := ⟨w.heap.size, 0, none⟩) (Nat.lt_succ_self _)).trans c0
        have v1 := (hB2.cell (p := ⟨w.heap.size, 1, none⟩) (Nat.lt_succ_self _)).trans c1
        have hzz := hB2.size
        have hlw : w.heap.size < wr.heap.size := by omega
        have hB : Below w.heap.size w wr := B2.trans (hB2.mono (Nat.le_succ _))
        obtain ⟨wc, rfl⟩ : ∃ wc : World, wc = wr := ⟨_, rfl⟩
        by_cases hlt : k < n
        · obtain ⟨b, off, rfl, hb, hc⟩ := (hA.below hB).cell (by omega)
          obtain ⟨hq0, hq1, hq2, hq3⟩ := hc k hlt
          clear hc
          have hlen := idxL_len (fun k => hasB (nt xs k) c) k
          have HL := Lib.hid (show ((idxL (fun k => hasB (nt xs k) c) k).map (Value.int .i64)).length ≤ 1048576 by rw [List.length_map]; omega)
          rcases Bool.eq_false_or_eq_true (hasB (nt xs k) c) with q | q
          · have Q := Lib.hid (idxL_yes (p := fun k => hasB (nt xs k) c) q)
            have QB := Lib.hid q; clear q
            go_wp2_with fail
            first | go_region_with ((go_at_call 32; refine (asB (l18Has_any (nt xs k) c _) QB.out).mono ?_; rintro e w5 ⟨rfl, hb5⟩)) | fail
            all_goals
              have T5 : Below wc.heap.size wc w5 := by first | exact bel_tr (Below.refl _ _) hb5 | exact bel_tr (below_drew (Below.refl _ _)) hb5 | exact bel_tr (below_drew (below_drew (Below.refl _ _))) hb5
              have HO5 := Lib.hid (HO.out.below T5)
              have hz5 : w.heap.size + 1 ≤ w5.heap.size := by have := T5.size; omega
              have HB5 := Lib.hid (hB2.trans (T5.mono (by omega)))
              go_wp2_with (at_builtin; refine wpList_app1 _ rfl (.tmp 27) (.tmp 29) 29 rfl (w.heap.size + 1) 2 (.int .i64 0) 8 Tryz.underlying29 info_i64 rfl _ _ (HO5.out) rfl _ _ rfl (by simp) rfl HL.out (by omega) hz5 ?_; intro v3 w3 hO3 hk3 hs3)
              have hB3 := hk3 (Nat.le_refl _) HB5.out
              go_roundw
              case rel => exact ⟨k + 1, by omega, by go_num, by rw [Q.out]; exact hO3, hB3⟩
              case measure => simp [intOf]; omega
          · have Q := Lib.hid (idxL_no (p := fun k => hasB (nt xs k) c) q)
            have QB := Lib.hid q; clear q
            go_wp2_with fail
            first | go_region_with ((go_at_call 32; refine (asB (l18Has_any (nt xs k) c _) QB.out).mono ?_; rintro e w5 ⟨rfl, hb5⟩)) | fail
            all_goals
              have T5 : Below wc.heap.size wc w5 := by first | exact bel_tr (Below.refl _ _) hb5 | exact bel_tr (below_drew (Below.refl _ _)) hb5 | exact bel_tr (below_drew (below_drew (Below.refl _ _))) hb5
              have HO5 := Lib.hid (HO.out.below T5)
              have hz5 : w.heap.size + 1 ≤ w5.heap.size := by have := T5.size; omega
              have HB5 := Lib.hid (hB2.trans (T5.mono (by omega)))
              go_wp2_with fail
              go_roundw
              case rel => exact ⟨k + 1, by omega, by go_num, by rw [Q.out]; exact HO5.out, HB5.out⟩
              case measure => simp [intOf]; omega
        · obtain rfl : n = k := by omega
          go_wp2
          go_ret2
          rw [E.out, R.out]
          exact ListC.own HO.out (Nat.le_trans (idxL_len _ n) (by omega)) (Nat.le_succ _) hB
    · have R := Lib.hid (show bwC xs c = 2 by rw [bwC, if_pos g, g1]; rfl)
      have E := Lib.hid (show bwL xs c = [] by rw [bwL, R.out]; rfl)
      have G := Lib.hid g; have G1 := Lib.hid g1; clear g g1
      go_enter Tryz.func28, Tryz.ntmps28
      go_wp2_with fail
      (refine (asB (l18Ok_any _ _ _ xs _ (hA.below (by first | (go_grown; done) | (go_split_ands; assumption)))) G.out).mono ?_; rintro e w1 ⟨rfl, hb1⟩; obtain ⟨hc1, hf1⟩ := bcell hb1; have hz1 := hb1.size; (try simp only [World.size_alloc] at hz1); (try simp only [World.size_setCell] at hz1); (try simp only [World.size_drew] at hz1); (try have L1 : w.heap.size < w1.heap.size := by omega); have B1 : Below w.heap.size w w1 := bel_tr (by first | (go_grown; done) | (go_split_ands; assumption)) hb1)
      go_wp2_with fail
      (refine (asB (l18Cause_any c _) G1.out).mono ?_; rintro e w2 ⟨rfl, hb2⟩; obtain ⟨hc2, hf2⟩ := bcell hb2; have hz2 := hb2.size; (try simp only [World.size_alloc] at hz2); (try simp only [World.size_setCell] at hz2); (try simp only [World.size_drew] at hz2); (try have L2 : w.heap.size < w2.heap.size := by omega); have B2 : Below w.heap.size w w2 := bel_tr (by first | (go_grown; done) | (go_split_ands; assumption)) hb2)
      go_wp2_with fail
      go_ret2
      rw [E.out, R.out]
      exact ListC.none_ B2
  · have R := Lib.hid (show bwC xs c = 1 by rw [bwC, g]; rfl)
    have E := Lib.hid (show bwL xs c = [] by rw [bwL, R.out]; rfl)
    have G := Lib.hid g; clear g
    go_enter Tryz.func28, Tryz.ntmps28
    go_wp2_with fail
    (refine (asB (l18Ok_any _ _ _ xs _ (hA.below (by first | (go_grown; done) | (go_split_ands; assumption)))) G.out).mono ?_; rintro e w1 ⟨rfl, hb1⟩; obtain ⟨hc1, hf1⟩ := bcell hb1; have hz1 := hb1.size; (try simp only [World.size_alloc] at hz1); (try simp only [World.size_setCell] at hz1); (try simp only [World.size_drew] at hz1); (try have L1 : w.heap.size < w1.heap.size := by omega); have B1 : Below w.heap.size w w1 := bel_tr (by first | (go_grown; done) | (go_split_ands; assumption)) hb1)
    go_wp2_with fail
    go_ret2
    rw [E.out, R.out]
    exact ListC.none_ B1

set_option maxHeartbeats 4000000 in
theorem implBatchesWith_any (A : Option Addr) (n cp : Nat) (xs : List Batch) (c : Cause) (w : World) (hA : BatchS w A n xs) :
    Calls Tryz.prog 7 #[.slice A n cp, .agg #[.int .i64 c.Kind, .int .i64 c.Number]] w (ListC (bwL xs c) (bwC xs c) w) := by
  have hn := hA.bound
  rcases Bool.eq_false_or_eq_true (batchesOk xs) with g | g
  · rcases Bool.eq_false_or_eq_true (causeB c) with g1 | g1
    · have R := Lib.hid (show bwC xs c = 0 by rw [bwC, if_pos g, if_pos g1])
      have E := Lib.hid (show bwL xs c = idxL (fun k => hasB (nt xs k) c) n by rw [bwL, if_pos R.out, hA.len])
      have h40 := batchesOk_len g
      rw [hA.len] at h40
      have L := Lib.hid hA.len
      have G := Lib.hid g; have G1 := Lib.hid g1; clear g g1
      go_enter Tryz.func7, Tryz.ntmps7
      go_wp2_with fail
      (refine (asB (implValidBatches_any _ _ _ xs _ (hA.below (by first | (go_grown; done) | (go_split_ands; assumption)))) G.out).mono ?_; rintro e w1 ⟨rfl, hb1⟩; obtain ⟨hc1, hf1⟩ := bcell hb1; have hz1 := hb1.size; (try simp only [World.size_alloc] at hz1); (try simp only [World.size_setCell] at hz1); (try simp only [World.size_drew] at hz1); (try have L1 : w.heap.size < w1.heap.size := by omega); have B1 : Below w.heap.size w w1 := bel_tr (by first | (go_grown; done) | (go_split_ands; assumption)) hb1)
      have e0 : w1.cell? ⟨w.heap.size, 0, none⟩ = some (.int .i64 c.Kind) := by rw [hc1 _ _ (by simp)]; go_simp
      have e1 : w1.cell? ⟨w.heap.size, 1, none⟩ = some (.int .i64 c.Number) := by rw [hc1 _ _ (by simp)]; go_simp
      clear hc1 hf1
      go_wp2_with fail
      (refine (asB (isCause_any c _) G1.out).mono ?_; rintro e w2 ⟨rfl, hb2⟩; obtain ⟨hc2, hf2⟩ := bcell hb2; have hz2 := hb2.size; (try simp only [World.size_alloc] at hz2); (try simp only [World.size_setCell] at hz2); (try simp only [World.size_drew] at hz2); (try have L2 : w.heap.size < w2.heap.size := by omega); have B2 : Below w.heap.size w w2 := bel_tr (by first | (go_grown; done) | (go_split_ands; assumption)) hb2)
      have c0 : w2.cell? ⟨w.heap.size, 0, none⟩ = some (.int .i64 c.Kind) := (hb2.cell (p := ⟨w.heap.size, 0, none⟩) L1).trans e0
      have c1 : w2.cell? ⟨w.heap.size, 1, none⟩ = some (.int .i64 c.Number) := (hb2.cell (p := ⟨w.heap.size, 1, none⟩) L1).trans e1
      clear hc2 hf2 e0 e1
      go_wp2_with fail
      go_loopw [6, 20] (fun v i wr => ∃ k : Nat, k ≤ n ∧ i = .int .i64 k ∧ OwnS wr (w.heap.size + 1) 2 v ((idxL (fun k => hasB (nt xs k) c) k).map (.int .i64)) ∧ Below (w.heap.size + 1) w2 wr) (fun _ i _ => n - (intOf i).toNat)
      case atStart => exact ⟨0, Nat.zero_le _, rfl, OwnS.made' (by omega) rfl, (Below.refl _ _).alloc (by omega) _⟩
      case round =>
        obtain ⟨k, hk, rfl, hO, hB2⟩ := hrel
        have HO := Lib.hid hO; clear hO
        have v0 := (hB2.cell (p := ⟨w.heap.size, 0, none⟩) (Nat.lt_succ_self _)).trans c0
        have v1 := (hB2.cell (p := ⟨w.heap.size, 1, none⟩) (Nat.lt_succ_self _)).trans c1
        have hzz := hB2.size
        have hlw : w.heap.size < wr.heap.size := by omega
        have hB : Below w.heap.size w wr := B2.trans (hB2.mono (Nat.le_succ _))
        obtain ⟨wc, rfl⟩ : ∃ wc : World, wc = wr := ⟨_, rfl⟩
        by_cases hlt : k < n
        · obtain ⟨b, off, rfl, hb, hc⟩ := (hA.below hB).cell (by omega)
          obtain ⟨hq0, hq1, hq2, hq3⟩ := hc k hlt
          clear hc
          have hlen := idxL_len (fun k => hasB (nt xs k) c) k
          have HL := Lib.hid (show ((idxL (fun k => hasB (nt xs k) c) k).map (Value.int .i64)).length ≤ 1048576 by rw [List.length_map]; omega)
          rcases Bool.eq_false_or_eq_true (hasB (nt xs k) c) with q | q
          · have Q := Lib.hid (idxL_yes (p := fun k => hasB (nt xs k) c) q)
            have QB := Lib.hid q; clear q
            go_wp2_with fail
            refine (asB (has_any (nt xs k) c _ G1.out) QB.out).mono ?_; rintro e w5 ⟨rfl, hb5⟩
            have T5 : Below wc.heap.size wc w5 := bel_tr (by go_grown) hb5
            have HO5 := Lib.hid (HO.out.below T5)
            have hz5 : w.heap.size + 1 ≤ w5.heap.size := by have := T5.size; omega
            have HB5 := Lib.hid (hB2.trans (T5.mono (by omega)))
            go_wp2_with (at_builtin; refine wpList_app1 _ rfl (.tmp 28) (.tmp 30) 29 rfl (w.heap.size + 1) 2 (.int .i64 0) 8 Tryz.underlying29 info_i64 rfl _ _ (HO5.out) rfl _ _ rfl (by simp) rfl HL.out (by omega) hz5 ?_; intro v3 w3 hO3 hk3 hs3)
            have hB3 := hk3 (Nat.le_refl _) HB5.out
            go_roundw
            case rel => exact ⟨k + 1, by omega, by go_num, by rw [Q.out]; exact hO3, hB3⟩
            case measure => simp [intOf]; omega
          · have Q := Lib.hid (idxL_no (p := fun k => hasB (nt xs k) c) q)
            have QB := Lib.hid q; clear q
            go_wp2_with fail
            refine (asB (has_any (nt xs k) c _ G1.out) QB.out).mono ?_; rintro e w5 ⟨rfl, hb5⟩
            have T5 : Below wc.heap.size wc w5 := bel_tr (by go_grown) hb5
            have HO5 := Lib.hid (HO.out.below T5)
            have hz5 : w.heap.size + 1 ≤ w5.heap.size := by have := T5.size; omega
            have HB5 := Lib.hid (hB2.trans (T5.mono (by omega)))
            go_wp2_with fail
            go_roundw
            case rel => exact ⟨k + 1, by omega, by go_num, by rw [Q.out]; exact HO5.out, HB5.out⟩
            case measure => simp [intOf]; omega
        · obtain rfl : n = k := by omega
          go_wp2
          go_ret2
          rw [E.out, R.out]
          exact ListC.own HO.out (Nat.le_trans (idxL_len _ n) (by omega)) (Nat.le_succ _) hB
    · have R := Lib.hid (show bwC xs c = 2 by rw [bwC, if_pos g, g1]; rfl)
      have E := Lib.hid (show bwL xs c = [] by rw [bwL, R.out]; rfl)
      have G := Lib.hid g; have G1 := Lib.hid g1; clear g g1
      go_enter Tryz.func7, Tryz.ntmps7
      go_wp2_with fail
      (refine (asB (implValidBatches_any _ _ _ xs _ (hA.below (by first | (go_grown; done) | (go_split_ands; assumption)))) G.out).mono ?_; rintro e w1 ⟨rfl, hb1⟩; obtain ⟨hc1, hf1⟩ := bcell hb1; have hz1 := hb1.size; (try simp only [World.size_alloc] at hz1); (try simp only [World.size_setCell] at hz1); (try simp only [World.size_drew] at hz1); (try have L1 : w.heap.size < w1.heap.size := by omega); have B1 : Below w.heap.size w w1 := bel_tr (by first | (go_grown; done) | (go_split_ands; assumption)) hb1)
      go_wp2_with fail
      (refine (asB (isCause_any c _) G1.out).mono ?_; rintro e w2 ⟨rfl, hb2⟩; obtain ⟨hc2, hf2⟩ := bcell hb2; have hz2 := hb2.size; (try simp only [World.size_alloc] at hz2); (try simp only [World.size_setCell] at hz2); (try simp only [World.size_drew] at hz2); (try have L2 : w.heap.size < w2.heap.size := by omega); have B2 : Below w.heap.size w w2 := bel_tr (by first | (go_grown; done) | (go_split_ands; assumption)) hb2)
      go_wp2_with fail
      go_ret2
      rw [E.out, R.out]
      exact ListC.none_ B2
  · have R := Lib.hid (show bwC xs c = 1 by rw [bwC, g]; rfl)
    have E := Lib.hid (show bwL xs c = [] by rw [bwL, R.out]; rfl)
    have G := Lib.hid g; clear g
    go_enter Tryz.func7, Tryz.ntmps7
    go_wp2_with fail
    (refine (asB (implValidBatches_any _ _ _ xs _ (hA.below (by first | (go_grown; done) | (go_split_ands; assumption)))) G.out).mono ?_; rintro e w1 ⟨rfl, hb1⟩; obtain ⟨hc1, hf1⟩ := bcell hb1; have hz1 := hb1.size; (try simp only [World.size_alloc] at hz1); (try simp only [World.size_setCell] at hz1); (try simp only [World.size_drew] at hz1); (try have L1 : w.heap.size < w1.heap.size := by omega); have B1 : Below w.heap.size w w1 := bel_tr (by first | (go_grown; done) | (go_split_ands; assumption)) hb1)
    go_wp2_with fail
    go_ret2
    rw [E.out, R.out]
    exact ListC.none_ B1

end Go.Proofs.YtmapjepdcbpalaaGreatDoor
