/- The contracts of RingFor, the reference's and the program's. -/
import Derived.Test.YtnccooeaeomjfaaK6
namespace Go.Proofs.Ytnccooeaeomjfaa
open Go.RowKit
set_option linter.unusedVariables false

def ringP (xs : List Int) (gap : Int) (j : Nat) : Bool := okB (6 + (j : Int)) xs && decide (gap ≤ gapF (6 + (j : Int)) xs)
def ringF (xs : List Int) (gap : Int) : Int × Int :=
  if (lensOk xs && inB gap 1 24) = true then (match (List.range 19).find? (ringP xs gap) with | some j => (6 + (j : Int), 0) | none => (0, 3)) else (0, 2)
theorem ringF_some {xs : List Int} {gap : Int} {k : Nat} (g : (lensOk xs && inB gap 1 24) = true) (hk : k < 19) (h : ringP xs gap k = true) (hn : ∀ j, j < k → ringP xs gap j = false) : ringF xs gap = (6 + (k : Int), 0) := by
  have : (List.range 19).find? (ringP xs gap) = some k := by
    rw [List.find?_range_eq_some]
    exact ⟨h, by simpa using hk, fun j hj => by simpa using hn j hj⟩
  rw [ringF, if_pos g, this]
theorem ringF_none {xs : List Int} {gap : Int} (g : (lensOk xs && inB gap 1 24) = true) (hn : ∀ j, j < 19 → ringP xs gap j = false) : ringF xs gap = (0, 3) := by
  have : (List.range 19).find? (ringP xs gap) = none := by
    rw [List.find?_range_eq_none]
    exact fun j hj => by simpa using hn j hj
  rw [ringF, if_pos g, this]

set_option maxHeartbeats 1000000 in
theorem specRingFor_any (A : Option Addr) (n cp : Nat) (xs : List Int) (gap : Int) (w : World) (hA : Ints w A n xs) :
    Calls Try.prog 20 #[.slice A n cp, .int .i64 gap] w (Two (ringF xs gap) w) := by
  rcases Bool.eq_false_or_eq_true (lensOk xs && inB gap 1 24) with g | g
  · have G := Lib.hid g; clear g
    have g1 : lensOk xs = true := by have := G.out; simp only [Bool.and_eq_true] at this; exact this.1
    have g2 : inB gap 1 24 = true := by have := G.out; simp only [Bool.and_eq_true] at this; exact this.2
    have G1 := Lib.hid g1; have G2 := Lib.hid g2; clear g1 g2
    go_enter Try.func20, Try.ntmps20
    go_wp2_with (first | (go_at_call 52; refine (asB (l17Lengths_any _ _ _ xs _ hA) G1.out).mono ?_; rintro e w' ⟨rfl, rfl⟩) | (go_at_call 53; refine (asB (in_any _ _ _ _) G2.out).mono ?_; rintro e w' ⟨rfl, rfl⟩))
    go_loopw [6] (fun i wr => ∃ k : Nat, k ≤ 19 ∧ i = .int .i64 (6 + (k : Int)) ∧ (∀ j, j < k → ringP xs gap j = false) ∧ Below w.heap.size w wr) (fun i _ => 30 - (intOf i).toNat)
    case atStart => exact ⟨0, Nat.zero_le _, rfl, fun j hj => absurd hj (by omega), Below.refl _ _⟩
    case round =>
      obtain ⟨k, hk, rfl, hn, hB⟩ := hrel
      have HN := Lib.hid hn; clear hn
      have hs := hB.size
      have hA1 : Ints wr A n xs := hA.below hB
      by_cases hlt : k < 19
      · have hK : KAt (wr.alloc (.cells #[.int .i64 (6 + (k : Int)), .slice A n cp] 27)) wr.heap.size (6 + (k : Int)) A n cp xs := ⟨by simp, by go_simp, by go_simp, hA1.alloc _⟩
        rcases Bool.eq_false_or_eq_true (okB (6 + (k : Int)) xs) with o | o
        · have P : Hid (ringP xs gap k = decide (gap ≤ gapF (6 + (k : Int)) xs)) := by show _ = _; rw [ringP, o, Bool.true_and]
          have O := Lib.hid o; clear o
          go_wp2_with (first | (go_at_call 45; refine (asB (l17Ok_any _ hK) O.out).mono ?_; rintro e w' ⟨rfl, q, rfl⟩) | (go_at_call 54; refine (l17Gap_any _ (hK.below (below_drewN (Below.refl _ _) _)) G1.out (by omega) (by omega)).mono ?_; rintro e w' ⟨rfl, rfl⟩))
          · go_ret2
            exact Two.mk (ringF_some G.out hlt (by rw [P.out]; simpa using by assumption) HN.out) (below_drewN (hB.alloc hs _) _)
          · go_roundw
            case rel => exact ⟨k + 1, by omega, by go_num, fun j hj => by
              rcases Nat.lt_or_ge j k with h | h
              · exact HN.out j h
              · obtain rfl : j = k := by omega
                rw [P.out]; simpa using by assumption, below_drewN (hB.alloc hs _) _⟩
            case measure => simp [intOf]; omega
        · have P : Hid (ringP xs gap k = false) := by show _ = _; rw [ringP, o, Bool.false_and]
          have O := Lib.hid o; clear o
          go_wp2_with (go_at_call 45; refine (asB (l17Ok_any _ hK) O.out).mono ?_; rintro e w' ⟨rfl, q, rfl⟩)
          go_roundw
          case rel => exact ⟨k + 1, by omega, by go_num, fun j hj => by
            rcases Nat.lt_or_ge j k with h | h
            · exact HN.out j h
            · obtain rfl : j = k := by omega
              exact P.out, below_drewN (hB.alloc hs _) _⟩
          case measure => simp [intOf]; omega
      · go_wp2
        go_ret2
        exact Two.mk (ringF_none G.out fun j hj => HN.out j (by omega)) hB
  · have E := Lib.hid (show ringF xs gap = (0, 2) by rw [ringF, g]; rfl)
    rcases Bool.eq_false_or_eq_true (lensOk xs) with g1 | g1
    · have g2 : inB gap 1 24 = false := by rw [g1, Bool.true_and] at g; exact g
      have G1 := Lib.hid g1; have G2 := Lib.hid g2; clear g1 g2 g
      go_enter Try.func20, Try.ntmps20
      go_wp2_with (first | (go_at_call 52; refine (asB (l17Lengths_any _ _ _ xs _ hA) G1.out).mono ?_; rintro e w' ⟨rfl, rfl⟩) | (go_at_call 53; refine (asB (in_any _ _ _ _) G2.out).mono ?_; rintro e w' ⟨rfl, rfl⟩))
      go_ret2
      exact Two.mk E.out (Below.refl _ _)
    · have G1 := Lib.hid g1; clear g1 g
      go_enter Try.func20, Try.ntmps20
      go_wp2_with (go_at_call 52; refine (asB (l17Lengths_any _ _ _ xs _ hA) G1.out).mono ?_; rintro e w' ⟨rfl, rfl⟩)
      go_ret2
      exact Two.mk E.out (Below.refl _ _)

set_option maxHeartbeats 1000000 in
theorem implRingFor_any (A : Option Addr) (n cp : Nat) (xs : List Int) (gap : Int) (w : World) (hA : Ints w A n xs) :
    Calls Try.prog 22 #[.slice A n cp, .int .i64 gap] w (Two (ringF xs gap) w) := by
  rcases Bool.eq_false_or_eq_true (lensOk xs && inB gap 1 24) with g | g
  · have G := Lib.hid g; clear g
    have g1 : lensOk xs = true := by have := G.out; simp only [Bool.and_eq_true] at this; exact this.1
    have g2 : inB gap 1 24 = true := by have := G.out; simp only [Bool.and_eq_true] at this; exact this.2
    have G1 := Lib.hid g1; have G2 := Lib.hid g2; clear g1 g2
    go_enter Try.func22, Try.ntmps22
    go_wp2_with fail
    refine (asB (areLengths_any _ _ _ xs _ hA) G1.out).mono ?_; rintro e w0 ⟨rfl, hb0⟩
    go_wp2_with (go_at_call 46; refine (asB (within_any _ _ _ _) G2.out).mono ?_; rintro e w' ⟨rfl, rfl⟩)
    go_loopw [6] (fun i wr => ∃ k : Nat, k ≤ 19 ∧ i = .int .i64 (6 + (k : Int)) ∧ (∀ j, j < k → ringP xs gap j = false) ∧ Below w.heap.size w wr) (fun i _ => 30 - (intOf i).toNat)
    case atStart => exact ⟨0, Nat.zero_le _, rfl, fun j hj => absurd hj (by omega), hb0⟩
    case round =>
      obtain ⟨k, hk, rfl, hn, hB⟩ := hrel
      have HN := Lib.hid hn; clear hn
      have hs := hB.size
      have hA1 : Ints wr A n xs := hA.below hB
      by_cases hlt : k < 19
      · rcases Bool.eq_false_or_eq_true (okB (6 + (k : Int)) xs) with o | o
        · have P : Hid (ringP xs gap k = decide (gap ≤ gapF (6 + (k : Int)) xs)) := by show _ = _; rw [ringP, o, Bool.true_and]
          have O := Lib.hid o; clear o
          go_wp2_with fail
          refine (asB (validKiln_any _ _ _ _ xs _ (hA1.below (by first | (go_grown; done) | (go_split_ands; assumption)))) O.out).mono ?_; rintro e w1 ⟨rfl, hb1⟩; obtain ⟨hc1, hf1⟩ := bcell hb1
          have hB1 : Below w.heap.size w w1 := (hB.alloc hs _).trans (hb1.mono (by simp; omega))
          have hl1 : wr.heap.size < w1.heap.size := by have := hb1.size; simp at this; omega
          go_wp2_with fail
          refine (fireGap_any _ _ _ _ xs _ (hA.below hB1) G1.out (by omega) (by omega)).mono ?_; rintro e w2 ⟨rfl, hb2⟩
          have hB2 : Below w.heap.size w w2 := bel_tr hB1 hb2
          clear hc1 hf1
          go_wp2_with fail
          · go_ret2
            exact Two.mk (ringF_some G.out hlt (by rw [P.out]; simpa using by assumption) HN.out) hB2
          · go_roundw
            case rel => exact ⟨k + 1, by omega, by go_num, fun j hj => by
              rcases Nat.lt_or_ge j k with h | h
              · exact HN.out j h
              · obtain rfl : j = k := by omega
                rw [P.out]; simpa using by assumption, hB2⟩
            case measure => simp [intOf]; omega
        · have P : Hid (ringP xs gap k = false) := by show _ = _; rw [ringP, o, Bool.false_and]
          have O := Lib.hid o; clear o
          go_wp2_with fail
          refine (asB (validKiln_any _ _ _ _ xs _ (hA1.below (by first | (go_grown; done) | (go_split_ands; assumption)))) O.out).mono ?_; rintro e w1 ⟨rfl, hb1⟩
          have hB1 : Below w.heap.size w w1 := (hB.alloc hs _).trans (hb1.mono (by simp; omega))
          go_wp2_with fail
          go_roundw
          case rel => exact ⟨k + 1, by omega, by go_num, fun j hj => by
            rcases Nat.lt_or_ge j k with h | h
            · exact HN.out j h
            · obtain rfl : j = k := by omega
              exact P.out, hB1⟩
          case measure => simp [intOf]; omega
      · go_wp2
        go_ret2
        exact Two.mk (ringF_none G.out fun j hj => HN.out j (by omega)) hB
  · have E := Lib.hid (show ringF xs gap = (0, 2) by rw [ringF, g]; rfl)
    rcases Bool.eq_false_or_eq_true (lensOk xs) with g1 | g1
    · have g2 : inB gap 1 24 = false := by rw [g1, Bool.true_and] at g; exact g
      have G1 := Lib.hid g1; have G2 := Lib.hid g2; clear g1 g2 g
      go_enter Try.func22, Try.ntmps22
      go_wp2_with fail
      refine (asB (areLengths_any _ _ _ xs _ hA) G1.out).mono ?_; rintro e w0 ⟨rfl, hb0⟩
      go_wp2_with (go_at_call 46; refine (asB (within_any _ _ _ _) G2.out).mono ?_; rintro e w' ⟨rfl, rfl⟩)
      go_ret2
      exact Two.mk E.out hb0
    · have G1 := Lib.hid g1; clear g1 g
      go_enter Try.func22, Try.ntmps22
      go_wp2_with fail
      refine (asB (areLengths_any _ _ _ xs _ hA) G1.out).mono ?_; rintro e w0 ⟨rfl, hb0⟩
      go_wp2_with fail
      go_ret2
      exact Two.mk E.out hb0
end Go.Proofs.Ytnccooeaeomjfaa
