/- How many bad and how many good batches have a cause; the first open batch: the reference's. -/
import Derived.Test.YtmapjepdcbpalaaGreatDoorB3
namespace Go.Proofs.YtmapjepdcbpalaaGreatDoor
open Go.RowKit
set_option linter.unusedVariables false

/-- How many of the first k numbers are so. -/
def cntN (p : Nat → Bool) : Nat → Nat
  | 0 => 0
  | k + 1 => cntN p k + (if p k = true then 1 else 0)
theorem cntN_le (p : Nat → Bool) : ∀ k, cntN p k ≤ k := by
  intro k
  induction k with
  | zero => exact Nat.le_refl _
  | succ k ih => rw [cntN]; split <;> omega
theorem cntN_yes {p : Nat → Bool} {k : Nat} (h : p k = true) : cntN p (k + 1) = cntN p k + 1 := by rw [cntN, if_pos h]
theorem cntN_no {p : Nat → Bool} {k : Nat} (h : p k = false) : cntN p (k + 1) = cntN p k := by rw [cntN, h]; simp
def badP (xs : List Batch) (c : Cause) (k : Nat) : Bool := hasB (nt xs k) c && (nt xs k).Bad
def goodP (xs : List Batch) (c : Cause) (k : Nat) : Bool := hasB (nt xs k) c && !(nt xs k).Bad

set_option maxHeartbeats 4000000 in
theorem l18Count_any (A : Option Addr) (n cp : Nat) (xs : List Batch) (c : Cause) (w : World) (hA : BatchS w A n xs) :
    Calls Tryz.prog 54 #[.slice A n cp, .agg #[.int .i64 c.Kind, .int .i64 c.Number]] w fun e w' => e = .returned (.tuple #[.int .i64 (cntN (badP xs c) n), .int .i64 (cntN (goodP xs c) n)]) ∧ Below w.heap.size w w' := by
  have hn := hA.bound
  have L := Lib.hid hA.len
  go_enter Tryz.func54, Tryz.ntmps54
  go_wp2_with fail
  go_loopw [6, 7, 8] (fun u v i wr => ∃ k : Nat, k ≤ n ∧ i = .int .i64 k ∧ u = .int .i64 (cntN (badP xs c) k) ∧ v = .int .i64 (cntN (goodP xs c) k) ∧ wr.cell? ⟨w.heap.size, 0, none⟩ = some (.int .i64 c.Kind) ∧ wr.cell? ⟨w.heap.size, 1, none⟩ = some (.int .i64 c.Number) ∧ w.heap.size < wr.heap.size ∧ Below w.heap.size w wr) (fun _ _ i _ => n - (intOf i).toNat)
  case atStart => exact ⟨0, Nat.zero_le _, rfl, rfl, rfl, by go_simp, by go_simp, by simp, by go_grown⟩
  case round =>
    obtain ⟨k, hk, rfl, rfl, rfl, v0, v1, hlw, hB⟩ := hrel
    obtain ⟨wc, rfl⟩ : ∃ wc : World, wc = wr := ⟨_, rfl⟩
    have hl1 := cntN_le (badP xs c) k
    have hl2 := cntN_le (goodP xs c) k
    by_cases hlt : k < n
    · obtain ⟨b, off, rfl, hb, hc⟩ := (hA.below hB).cell (by omega)
      obtain ⟨hq0, hq1, hq2, hq3⟩ := hc k hlt
      clear hc
      rcases Bool.eq_false_or_eq_true (hasB (nt xs k) c) with q | q
      · rcases Bool.eq_false_or_eq_true (nt xs k).Bad with g | g
        · skip
          have Q1 := Lib.hid (cntN_yes (p := badP xs c) (k := k) (by rw [badP, q, g]; rfl))
          have Q2 := Lib.hid (cntN_no (p := goodP xs c) (k := k) (by rw [goodP, q, g]; rfl))
          have QB := Lib.hid q; clear q
          have GB := Lib.hid g; clear g
          go_wp2_with fail
          first | go_region_with ((go_at_call 32; refine (asB (l18Has_any (nt xs k) c _) QB.out).mono ?_; rintro e w5 ⟨rfl, hb5⟩)) | fail
          all_goals
            have T5 : Below wc.heap.size wc w5 := by first | exact bel_tr (Below.refl _ _) hb5 | exact bel_tr (below_drew (Below.refl _ _)) hb5 | exact bel_tr (below_drew (below_drew (Below.refl _ _))) hb5
            have hz5 : w.heap.size < w5.heap.size := by have := T5.size; omega
            have B5 : Below w.heap.size w w5 := hB.trans (T5.mono (by omega))
            have u0 := (T5.cell (p := ⟨w.heap.size, 0, none⟩) hlw).trans v0
            have u1 := (T5.cell (p := ⟨w.heap.size, 1, none⟩) hlw).trans v1
            have h3 := Eq.trans (T5.cell (p := ⟨b, _, none⟩) hb) hq3
            rw [GB.out] at h3
            clear hq3
            go_wp2_with fail
            go_roundw
            case rel => exact ⟨k + 1, by omega, by go_num, (by first | (rw [Q1.out]; done) | (rw [Q1.out]; go_num)), (by first | (rw [Q2.out]; done) | (rw [Q2.out]; go_num)), u0, u1, hz5, B5⟩
            case measure => simp [intOf]; omega
        · skip
          have Q1 := Lib.hid (cntN_no (p := badP xs c) (k := k) (by rw [badP, q, g]; rfl))
          have Q2 := Lib.hid (cntN_yes (p := goodP xs c) (k := k) (by rw [goodP, q, g]; rfl))
          have QB := Lib.hid q; clear q
          have GB := Lib.hid g; clear g
          go_wp2_with fail
          first | go_region_with ((go_at_call 32; refine (asB (l18Has_any (nt xs k) c _) QB.out).mono ?_; rintro e w5 ⟨rfl, hb5⟩)) | fail
          all_goals
            have T5 : Below wc.heap.size wc w5 := by first | exact bel_tr (Below.refl _ _) hb5 | exact bel_tr (below_drew (Below.refl _ _)) hb5 | exact bel_tr (below_drew (below_drew (Below.refl _ _))) hb5
            have hz5 : w.heap.size < w5.heap.size := by have := T5.size; omega
            have B5 : Below w.heap.size w w5 := hB.trans (T5.mono (by omega))
            have u0 := (T5.cell (p := ⟨w.heap.size, 0, none⟩) hlw).trans v0
            have u1 := (T5.cell (p := ⟨w.heap.size, 1, none⟩) hlw).trans v1
            have h3 := Eq.trans (T5.cell (p := ⟨b, _, none⟩) hb) hq3
            rw [GB.out] at h3
            clear hq3
            go_wp2_with fail
            go_roundw
            case rel => exact ⟨k + 1, by omega, by go_num, (by first | (rw [Q1.out]; done) | (rw [Q1.out]; go_num)), (by first | (rw [Q2.out]; done) | (rw [Q2.out]; go_num)), u0, u1, hz5, B5⟩
            case measure => simp [intOf]; omega
      · skip
        have Q1 := Lib.hid (cntN_no (p := badP xs c) (k := k) (by rw [badP, q]; rfl))
        have Q2 := Lib.hid (cntN_no (p := goodP xs c) (k := k) (by rw [goodP, q]; rfl))
        have QB := Lib.hid q; clear q
        go_wp2_with fail
        first | go_region_with ((go_at_call 32; refine (asB (l18Has_any (nt xs k) c _) QB.out).mono ?_; rintro e w5 ⟨rfl, hb5⟩)) | fail
        all_goals
          have T5 : Below wc.heap.size wc w5 := by first | exact bel_tr (Below.refl _ _) hb5 | exact bel_tr (below_drew (Below.refl _ _)) hb5 | exact bel_tr (below_drew (below_drew (Below.refl _ _))) hb5
          have hz5 : w.heap.size < w5.heap.size := by have := T5.size; omega
          have B5 : Below w.heap.size w w5 := hB.trans (T5.mono (by omega))
          have u0 := (T5.cell (p := ⟨w.heap.size, 0, none⟩) hlw).trans v0
          have u1 := (T5.cell (p := ⟨w.heap.size, 1, none⟩) hlw).trans v1
          go_wp2_with fail
          go_roundw
          case rel => exact ⟨k + 1, by omega, by go_num, (by first | (rw [Q1.out]; done) | (rw [Q1.out]; go_num)), (by first | (rw [Q2.out]; done) | (rw [Q2.out]; go_num)), u0, u1, hz5, B5⟩
          case measure => simp [intOf]; omega
    · obtain rfl : n = k := by omega
      go_wp2
      go_ret2
      exact ⟨rfl, hB⟩
end Go.Proofs.YtmapjepdcbpalaaGreatDoor
