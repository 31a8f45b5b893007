/- The reference's lists of causes: l18All, l18Bad, l18Code. -/
import Derived.Test.YtmapjepdcbpalaaGreatDoorOC
import Derived.Test.YtmapjepdcbpalaaGreatDoorCQ2
namespace Go.Proofs.YtmapjepdcbpalaaGreatDoor
open Go.RowKit
set_option linter.unusedVariables false

theorem allC_step {t s : Nat} (h : s < 20) : allC (t * 20 + (s + 1)) = allC (t * 20 + s) ++ [⟨(t : Int) + 1, (s : Int) + 1⟩] := by
  rw [show t * 20 + (s + 1) = (t * 20 + s) + 1 by omega, allC_succ, show (t * 20 + s) / 20 = t by omega, show (t * 20 + s) % 20 = s by omega]

set_option maxHeartbeats 2000000 in
theorem l18All_any (w : World) : Calls Tryz.prog 53 #[] w (CauseR (allC 60) w) := by
  go_enter Tryz.func53, Tryz.ntmps53
  go_wp2
  go_loopw [1, 2] (fun v i wr => ∃ t : Nat, t ≤ 3 ∧ i = .int .i64 ((t : Int) + 1) ∧ OwnC wr w.heap.size v (allC (t * 20)) ∧ Below w.heap.size w wr) (fun _ i _ => 4 - (intOf i).toNat)
  case atStart => exact ⟨0, by omega, rfl, OwnC.made' (by omega) rfl, (Below.refl _ _).alloc (by omega) _⟩
  case round =>
    obtain ⟨t, ht, rfl, hO, hB⟩ := hrel
    have HO := Lib.hid hO; clear hO
    by_cases hlt : t < 3
    · have hi3 : (t : Int) + 1 ≤ 3 := by omega
      go_wp2
      go_loopw [3, 1] (fun i v wr => ∃ s : Nat, s ≤ 20 ∧ i = .int .i64 ((s : Int) + 1) ∧ OwnC wr w.heap.size v (allC (t * 20 + s)) ∧ Below w.heap.size w wr) (fun i _ _ => 21 - (intOf i).toNat)
      case atStart => exact ⟨0, by omega, rfl, HO.out, hB⟩
      case round =>
        obtain ⟨s, hs, rfl, hO, hB2⟩ := hrel
        have HO2 := Lib.hid hO; clear hO
        by_cases hls : s < 20
        · have hi20 : (s : Int) + 1 ≤ 20 := by omega
          have hz := hB2.size
          have HL := Lib.hid (show (allC (t * 20 + s)).length ≤ 1000000 by rw [allC_len]; omega)
          have E := Lib.hid (allC_step (t := t) hls)
          go_wp2_with (at_builtin; refine wpList_appC1 _ rfl (.tmp 13) (.tmp 17) rfl w.heap.size _ _ HO2.out rfl _ _ _ rfl rfl HL.out (by omega) ?_; intro v3 w3 hO3 hk3 hs3)
          have hB3 := hk3 (Nat.le_refl _) hB2
          go_roundw
          case rel => exact ⟨s + 1, by omega, by go_num, by rw [E.out]; exact hO3, hB3⟩
          case measure => simp [intOf]; omega
        · obtain rfl : s = 20 := by omega
          go_wp2
          go_roundw
          case rel => exact ⟨t + 1, by omega, by go_num, by rw [show (t + 1) * 20 = t * 20 + 20 by omega]; exact HO2.out, hB2⟩
          case measure => simp [intOf]; omega
    · obtain rfl : t = 3 := by omega
      go_wp2
      go_ret
      exact CauseR.own HO.out (by rw [allC_len]; omega) (Nat.le_refl _) hB

set_option maxHeartbeats 2000000 in
theorem l18Bad_any (A : Option Addr) (n c : Nat) (xs : List Batch) (w : World) (hA : BatchS w A n xs) :
    Calls Tryz.prog 52 #[.slice A n c] w fun e w' => e = .returned (.int .i64 (cntN (fun k => (nt xs k).Bad) n : Nat)) ∧ Below w.heap.size w w' := by
  have hn := hA.bound
  have L := Lib.hid hA.len
  go_enter Tryz.func52, Tryz.ntmps52
  go_wp2
  go_loopw [4, 3] (fun i v wr => ∃ k m : Nat, k ≤ n ∧ i = .int .i64 k ∧ v = .int .i64 m ∧ m = cntN (fun k => (nt xs k).Bad) k ∧ Below w.heap.size w wr) (fun i _ _ => n - (intOf i).toNat)
  case atStart => exact ⟨0, 0, Nat.zero_le _, rfl, rfl, rfl, Below.refl _ _⟩
  case round =>
    obtain ⟨k, m, hk, rfl, rfl, hm, hbel⟩ := hrel
    have hm1 : m ≤ k := by rw [hm]; exact cntN_le _ _
    have M := Lib.hid hm; clear hm
    by_cases hlt : k < n
    · obtain ⟨b, off, rfl, hb, hc⟩ := (hA.below hbel).cell (by omega)
      obtain ⟨hq0, hq1, hq2, hq3⟩ := hc k hlt
      clear hc hq0 hq1 hq2
      rcases Bool.eq_false_or_eq_true (nt xs k).Bad with g | g
      · have Q := Lib.hid (cntN_yes (p := fun k => (nt xs k).Bad) (k := k) g)
        rw [g] at hq3; clear g
        go_wp2
        go_roundw
        case rel => exact ⟨k + 1, m + 1, by omega, by go_num, by go_num, by rw [Q.out, ← M.out], hbel⟩
        case measure => simp [intOf]; omega
      · have Q := Lib.hid (cntN_no (p := fun k => (nt xs k).Bad) (k := k) g)
        rw [g] at hq3; clear g
        go_wp2
        go_roundw
        case rel => exact ⟨k + 1, m, by omega, by go_num, rfl, by rw [Q.out, ← M.out], hbel⟩
        case measure => simp [intOf]; omega
    · obtain rfl : n = k := by omega
      go_wp2
      go_ret
      exact ⟨ret_int (by rw [M.out]), hbel⟩

theorem codeB_ok {xs : List Batch} (h : codeB xs = 0) : batchesOk xs = true ∧ xs.any (·.Bad) = true := by
  unfold codeB at h
  by_cases g : batchesOk xs = true
  · rw [if_pos g] at h
    by_cases f : xs.any (·.Bad) = true
    · exact ⟨g, f⟩
    · rw [if_neg f] at h; cases h
  · rw [if_neg g] at h; cases h
theorem cnt_any {xs : List Batch} {n : Nat} (hn : xs.length = n) : (0 < cntN (fun k => (nt xs k).Bad) n) ↔ xs.any (·.Bad) = true := by
  rw [cntN_pos, any_nt, hn]

def IsCode (xs : List Batch) (w : World) (e : Ending) (w' : World) : Prop := e = .returned (.int .i64 (codeB xs)) ∧ Below w.heap.size w w'
theorem IsCode.mk {xs : List Batch} {w w' : World} {c : Int} (h : codeB xs = c) (hb : Below w.heap.size w w') : IsCode xs w (.returned (.int .i64 c)) w' := by
  subst h; exact ⟨rfl, hb⟩
set_option maxHeartbeats 2000000 in
theorem l18Code_any (A : Option Addr) (n c : Nat) (xs : List Batch) (w : World) (hA : BatchS w A n xs) :
    Calls Tryz.prog 26 #[.slice A n c] w (IsCode xs w) := by
  have hn := hA.bound
  rcases Bool.eq_false_or_eq_true (batchesOk xs) with g | g
  · obtain ⟨u, hu⟩ : ∃ u, cntN (fun k => (nt xs k).Bad) n = u := ⟨_, rfl⟩
    have hcon := fun W hW => l18Bad_any A n c xs W hW
    rw [hu] at hcon
    have hun : u ≤ n := by rw [← hu]; exact cntN_le _ _
    rcases Nat.eq_zero_or_pos u with z | z
    · have R := Lib.hid (show codeB xs = 3 by
        rw [codeB, if_pos g, if_neg]
        rw [← cnt_any hA.len, hu, z]; simp)
      subst z
      have G := Lib.hid g; clear g hu
      go_enter Tryz.func26, Tryz.ntmps26
      go_wp2_with fail
      (refine (asB (l18Ok_any _ _ _ xs _ (hA.below (by first | (go_grown; done) | (go_split_ands; assumption)))) G.out).mono ?_; rintro e w1 ⟨rfl, hb1⟩; obtain ⟨hc1, hf1⟩ := bcell hb1; have hz1 := hb1.size; (try simp only [World.size_alloc] at hz1); (try simp only [World.size_setCell] at hz1); (try simp only [World.size_drew] at hz1); (try have L1 : w.heap.size < w1.heap.size := by omega); have B1 : Below w.heap.size w w1 := bel_tr (by first | (go_grown; done) | (go_split_ands; assumption)) hb1)
      go_wp2_with fail
      (refine (hcon _ (hA.below (by first | (go_grown; done) | (go_split_ands; assumption)))).mono ?_; rintro e w2 ⟨rfl, hb2⟩; obtain ⟨hc2, hf2⟩ := bcell hb2; have hz2 := hb2.size; (try simp only [World.size_alloc] at hz2); (try simp only [World.size_setCell] at hz2); (try simp only [World.size_drew] at hz2); (try have L2 : w.heap.size < w2.heap.size := by omega); have B2 : Below w.heap.size w w2 := bel_tr (by first | (go_grown; done) | (go_split_ands; assumption)) hb2)
      go_wp2_with fail
      go_ret
      exact IsCode.mk R.out B2
    · have R := Lib.hid (show codeB xs = 0 by
        rw [codeB, if_pos g, if_pos]
        rw [← cnt_any hA.len, hu]; exact z)
      have hz1 : (u : Int) ≠ 0 := by omega
      have hz2 : ((u : Int) == 0) = false := by rw [beq_eq_false_iff_ne]; omega
      have G := Lib.hid g; clear g hu
      go_enter Tryz.func26, Tryz.ntmps26
      go_wp2_with fail
      (refine (asB (l18Ok_any _ _ _ xs _ (hA.below (by first | (go_grown; done) | (go_split_ands; assumption)))) G.out).mono ?_; rintro e w1 ⟨rfl, hb1⟩; obtain ⟨hc1, hf1⟩ := bcell hb1; have hz1 := hb1.size; (try simp only [World.size_alloc] at hz1); (try simp only [World.size_setCell] at hz1); (try simp only [World.size_drew] at hz1); (try have L1 : w.heap.size < w1.heap.size := by omega); have B1 : Below w.heap.size w w1 := bel_tr (by first | (go_grown; done) | (go_split_ands; assumption)) hb1)
      go_wp2_with fail
      (refine (hcon _ (hA.below (by first | (go_grown; done) | (go_split_ands; assumption)))).mono ?_; rintro e w2 ⟨rfl, hb2⟩; obtain ⟨hc2, hf2⟩ := bcell hb2; have hz2 := hb2.size; (try simp only [World.size_alloc] at hz2); (try simp only [World.size_setCell] at hz2); (try simp only [World.size_drew] at hz2); (try have L2 : w.heap.size < w2.heap.size := by omega); have B2 : Below w.heap.size w w2 := bel_tr (by first | (go_grown; done) | (go_split_ands; assumption)) hb2)
      go_wp2_with fail
      go_ret
      exact IsCode.mk R.out B2
  · have R := Lib.hid (show codeB xs = 1 by rw [codeB, g]; rfl)
    have G := Lib.hid g; clear g
    go_enter Tryz.func26, Tryz.ntmps26
    go_wp2_with fail
    (refine (asB (l18Ok_any _ _ _ xs _ (hA.below (by first | (go_grown; done) | (go_split_ands; assumption)))) G.out).mono ?_; rintro e w1 ⟨rfl, hb1⟩; obtain ⟨hc1, hf1⟩ := bcell hb1; have hz1 := hb1.size; (try simp only [World.size_alloc] at hz1); (try simp only [World.size_setCell] at hz1); (try simp only [World.size_drew] at hz1); (try have L1 : w.heap.size < w1.heap.size := by omega); have B1 : Below w.heap.size w w1 := bel_tr (by first | (go_grown; done) | (go_split_ands; assumption)) hb1)
    go_wp2_with fail
    go_ret
    exact IsCode.mk R.out B1
end Go.Proofs.YtmapjepdcbpalaaGreatDoor
