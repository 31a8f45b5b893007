/- The contracts of the fire's gap, the reference's and the program's, and of FireGap. -/
import Derived.Test.YtnccooeaeomjfaaK4
namespace Go.Proofs.Ytnccooeaeomjfaa
open Go.RowKit
set_option linter.unusedVariables false

theorem l00Min_any (a b : Int) (w : World) :
    Calls Try.prog 64 #[.int .i64 a, .int .i64 b] w fun e w' => e = .returned (.int .i64 (min a b)) ∧ w = w' := by
  go_enter Try.func64, Try.ntmps64
  go_wp2
  all_goals (go_ret; exact ⟨ret_int (by omega), rfl⟩)
theorem l02Size_any (a : Int) (w : World) (h0 : -1000000 ≤ a) (h1 : a ≤ 1000000) :
    Calls Try.prog 69 #[.int .i64 a] w fun e w' => e = .returned (.int .i64 (max a (-a))) ∧ w = w' := by
  go_enter Try.func69, Try.ntmps69
  go_wp2
  all_goals (go_ret; exact ⟨ret_int (by omega), rfl⟩)
theorem apart_any (a b : Int) (w : World) (h0 : -1000000 ≤ a) (h1 : a ≤ 1000000) (h2 : -1000000 ≤ b) (h3 : b ≤ 1000000) :
    Calls Try.prog 71 #[.int .i64 a, .int .i64 b] w fun e w' => e = .returned (.int .i64 (max (a - b) (-(a - b)))) ∧ w = w' := by
  go_enter Try.func71, Try.ntmps71
  go_wp2
  all_goals (go_ret; exact ⟨ret_int (by first | omega | (split <;> omega)), rfl⟩)

/-- Is there fire at a, and an open door at b? -/
def hitB (xs : List Int) (a b : Int) : Bool := stg xs a 0 == 3 && (stg xs b 0 == 1 || stg xs b 0 == 5)
def gapStep (ch : Int) (xs : List Int) (a b acc : Int) : Int :=
  if hitB xs a b = true then min acc (min (max (a - b) (-(a - b))) (ch - max (a - b) (-(a - b)))) else acc
def gapIn (ch : Int) (xs : List Int) (a acc : Int) : Nat → Int
  | 0 => acc
  | k + 1 => gapStep ch xs a k (gapIn ch xs a acc k)
def gapOut (ch : Int) (xs : List Int) : Nat → Int
  | 0 => ch
  | k + 1 => gapIn ch xs k (gapOut ch xs k) ch.toNat
/-- The gap of the fire. -/
def gapF (ch : Int) (xs : List Int) : Int := gapOut ch xs ch.toNat
theorem gapIn_succ (ch : Int) (xs : List Int) (a acc : Int) (k : Nat) : gapIn ch xs a acc (k + 1) = gapStep ch xs a k (gapIn ch xs a acc k) := rfl

theorem gapStep_yes {ch : Int} {xs : List Int} {a b acc : Int} (h : hitB xs a b = true) : gapStep ch xs a b acc = min acc (min (max (a - b) (-(a - b))) (ch - max (a - b) (-(a - b)))) := if_pos h
theorem gapStep_no {ch : Int} {xs : List Int} {a b acc : Int} (h : hitB xs a b = false) : gapStep ch xs a b acc = acc := if_neg (by simp [h])
theorem min3 {acc d c : Int} : (if c < (if d < acc then d else acc) then c else (if d < acc then d else acc)) = min acc (min d c) := by
  by_cases hh : d < acc
  · rw [if_pos hh]; split <;> omega
  · rw [if_neg hh]; split <;> omega

set_option maxHeartbeats 2000000 in
theorem l17Gap_any {b : Nat} {ch : Int} {A : Option Addr} {n cp : Nat} {xs : List Int} (w : World) (h : KAt w b ch A n cp xs) (hL : lensOk xs = true) (h6 : 6 ≤ ch) (h24 : ch ≤ 24) :
    Calls Try.prog 54 #[.pointer (some ⟨b, 0, none⟩)] w fun e w' => e = .returned (.int .i64 (gapF ch xs)) ∧ w = w' := by
  have h0 := h.c0
  have h1 := h.c1
  have L := Lib.hid hL; clear hL
  obtain ⟨m, rfl⟩ := Int.eq_ofNat_of_zero_le (show 0 ≤ ch by omega)
  go_enter Try.func54, Try.ntmps54
  go_wp2
  go_loop [3, 4] (fun s i => ∃ k : Nat, k ≤ m ∧ i = .int .i64 k ∧ s = .int .i64 (gapOut m xs k)) (fun _ i => m - (intOf i).toNat)
  case atStart => exact ⟨0, Nat.zero_le _, rfl, rfl⟩
  case round =>
    obtain ⟨k, hk, rfl, rfl⟩ := hrel
    by_cases hlt : k < m
    · go_wp2
      go_loop [3, 5] (fun s i => ∃ j : Nat, j ≤ m ∧ i = .int .i64 j ∧ s = .int .i64 (gapIn m xs k (gapOut m xs k) j)) (fun _ i => m - (intOf i).toNat)
      case atStart => exact ⟨0, Nat.zero_le _, rfl, rfl⟩
      case round =>
        obtain ⟨j, hj, rfl, rfl⟩ := hrel
        by_cases hjt : j < m
        · have S := Lib.hid (gapIn_succ m xs k (gapOut m xs k) j)
          go_wp2_with (first | (go_at_call 68; refine (l17Stage_any _ _ h L.out).mono ?_; rintro e w' ⟨rfl, rfl⟩) | (go_at_call 69; refine (l02Size_any _ _ (by omega) (by omega)).mono ?_; rintro e w' ⟨rfl, rfl⟩) | (go_at_call 64; refine (l00Min_any _ _ _).mono ?_; rintro e w' ⟨rfl, rfl⟩))
          all_goals
            go_round
            case rel => exact ⟨j + 1, by omega, by go_num, by rw [S.out]; congr 1; simp_all [gapStep, hitB]⟩
            case measure => simp [intOf]; omega
        · go_wp2
          obtain rfl : j = m := by omega
          go_round
          case rel => exact ⟨k + 1, by omega, by go_num, by rw [gapOut]; simp⟩
          case measure => simp [intOf]; omega
    · go_wp2
      go_ret
      obtain rfl : k = m := by omega
      exact ⟨ret_int (by rw [gapF]; simp), rfl⟩

set_option maxHeartbeats 2000000 in
theorem fireGap_any (ch : Int) (A : Option Addr) (n cp : Nat) (xs : List Int) (w : World) (hA : Ints w A n xs) (hL : lensOk xs = true) (h6 : 6 ≤ ch) (h24 : ch ≤ 24) :
    Calls Try.prog 55 #[.agg #[.int .i64 ch, .slice A n cp]] w fun e w' => e = .returned (.int .i64 (gapF ch xs)) ∧ Below w.heap.size w w' := by
  have L := Lib.hid hL; clear hL
  obtain ⟨m, rfl⟩ := Int.eq_ofNat_of_zero_le (show 0 ≤ ch by omega)
  go_enter Try.func55, Try.ntmps55
  go_wp2
  go_loopw [3, 12] (fun s i wr => ∃ k : Nat, k ≤ m ∧ i = .int .i64 k ∧ s = .int .i64 (gapOut m xs k) ∧ Below (w.heap.size + 1) (w.alloc (.cells #[.int .i64 m, .slice A n cp] 27)) wr) (fun _ i _ => m - (intOf i).toNat)
  case atStart => exact ⟨0, Nat.zero_le _, rfl, rfl, Below.refl _ _⟩
  case round =>
    obtain ⟨k, hk, rfl, rfl, hB⟩ := hrel
    have c0 : wr.cell? ⟨w.heap.size, 0, none⟩ = some (.int .i64 m) := (hB.cell (p := ⟨w.heap.size, 0, none⟩) (by simp)).trans (by go_simp)
    obtain ⟨wo, rfl⟩ : ∃ wo : World, wo = wr := ⟨_, rfl⟩
    by_cases hlt : k < m
    · go_wp2
      go_loopw [3, 17] (fun s i wr => ∃ j : Nat, j ≤ m ∧ i = .int .i64 j ∧ s = .int .i64 (gapIn m xs k (gapOut m xs k) j) ∧ Below (w.heap.size + 1) (w.alloc (.cells #[.int .i64 m, .slice A n cp] 27)) wr) (fun _ i _ => m - (intOf i).toNat)
      case atStart => exact ⟨0, Nat.zero_le _, rfl, rfl, hB⟩
      case round =>
        clear c0 hB
        obtain ⟨j, hj, rfl, rfl, hB⟩ := hrel
        by_cases hjt : j < m
        · have S := Lib.hid (gapIn_succ m xs k (gapOut m xs k) j)
          have c0 : wr.cell? ⟨w.heap.size, 0, none⟩ = some (.int .i64 m) := (hB.cell (p := ⟨w.heap.size, 0, none⟩) (by simp)).trans (by go_simp)
          have c1 : wr.cell? ⟨w.heap.size, 1, none⟩ = some (.slice A n cp) := (hB.cell (p := ⟨w.heap.size, 1, none⟩) (by simp)).trans (by go_simp)
          have hs := hB.size
          simp only [World.size_alloc] at hs
          have hl : w.heap.size < wr.heap.size := by omega
          have hA1 : Ints wr A n xs := hA.below (Below.trans ((Below.refl _ _).alloc (Nat.le_refl _) _) (hB.mono (by omega)))
          go_wp2_with fail
          refine (stageOf_any _ _ _ _ xs _ _ hA1 L.out (by omega) (by omega)).mono ?_; rintro e w1 ⟨rfl, hb1⟩; obtain ⟨hc1, hf1⟩ := bcell hb1
          have hl1 : w.heap.size < w1.heap.size := by have := hb1.size; omega
          go_wp2_with fail
          refine (stageOf_any _ _ _ _ xs _ _ (hA1.below hb1) L.out (by omega) (by omega)).mono ?_; rintro e w2 ⟨rfl, hb2⟩; obtain ⟨hc2, hf2⟩ := bcell hb2
          have hB2 : Below (w.heap.size + 1) (w.alloc (.cells #[.int .i64 m, .slice A n cp] 27)) w2 := hB.trans ((hb1.mono (by omega)).trans (hb2.mono (by omega)))
          go_wp2_with (go_at_call 71; refine (apart_any _ _ _ (by omega) (by omega) (by omega) (by omega)).mono ?_; rintro e w' ⟨rfl, rfl⟩)
          all_goals
            go_roundw
            case rel => exact ⟨j + 1, by omega, by go_num, by rw [S.out]; first | (rw [gapStep_yes] <;> first | exact congrArg _ min3 | (simp [hitB, *]; done) | (rename_i hx hy hz; rcases hz with hz | hz <;> simp only [hitB, hx, hz, Bool.or_true, Bool.true_or] <;> simp; done)) | (rw [gapStep_no]; first | (simp [hitB, *]; done) | (rename_i hx hy hz; simp only [hitB, hz.1, hz.2, Bool.or_self, Bool.and_false]; done)), hB2⟩
            case measure => simp [intOf]; omega
        · go_wp2
          obtain rfl : j = m := by omega
          go_roundw
          case rel => exact ⟨k + 1, by omega, by go_num, by rw [gapOut]; simp, hB⟩
          case measure => simp [intOf]; omega
    · go_wp2
      go_ret
      obtain rfl : k = m := by omega
      exact ⟨ret_int (by rw [gapF]; simp), Below.trans ((Below.refl _ _).alloc (Nat.le_refl _) _) (hB.mono (by omega))⟩

def fireGapF (ch : Int) (xs : List Int) : Int × Int := if okB ch xs = true then (gapF ch xs, 0) else (0, 1)

theorem specFireGap_any (ch : Int) (A : Option Addr) (n cp : Nat) (xs : List Int) (w : World) (hA : Ints w A n xs) :
    Calls Try.prog 32 #[.agg #[.int .i64 ch, .slice A n cp]] w (Two (fireGapF ch xs) w) := by
  have hK : KAt (w.alloc (.cells #[.int .i64 ch, .slice A n cp] 27)) w.heap.size ch A n cp xs := ⟨by simp, by go_simp, by go_simp, hA.alloc _⟩
  rcases Bool.eq_false_or_eq_true (okB ch xs) with g | g
  · have E := Lib.hid (show fireGapF ch xs = (gapF ch xs, 0) by rw [fireGapF, if_pos g])
    obtain ⟨p6, p7, p8, _⟩ := okB_parts g
    have G := Lib.hid g; clear g
    go_enter Try.func32, Try.ntmps32
    go_wp2_with (first | (go_at_call 45; refine (asB (l17Ok_any _ hK) G.out).mono ?_; rintro e w' ⟨rfl, q, rfl⟩) | (go_at_call 54; refine (l17Gap_any _ (hK.below (below_drewN (Below.refl _ _) _)) p8 p6 p7).mono ?_; rintro e w' ⟨rfl, rfl⟩))
    go_ret2
    exact Two.mk E.out (below_drewN (by go_grown) _)
  · have E := Lib.hid (show fireGapF ch xs = (0, 1) by rw [fireGapF, g]; rfl)
    have G := Lib.hid g; clear g
    go_enter Try.func32, Try.ntmps32
    go_wp2_with (go_at_call 45; refine (asB (l17Ok_any _ hK) G.out).mono ?_; rintro e w' ⟨rfl, q, rfl⟩)
    go_ret2
    exact Two.mk E.out (below_drewN (by go_grown) _)

theorem implFireGap_any (ch : Int) (A : Option Addr) (n cp : Nat) (xs : List Int) (w : World) (hA : Ints w A n xs) :
    Calls Try.prog 33 #[.agg #[.int .i64 ch, .slice A n cp]] w (Two (fireGapF ch xs) w) := by
  rcases Bool.eq_false_or_eq_true (okB ch xs) with g | g
  · have E := Lib.hid (show fireGapF ch xs = (gapF ch xs, 0) by rw [fireGapF, if_pos g])
    obtain ⟨p6, p7, p8, _⟩ := okB_parts g
    have G := Lib.hid g; clear g
    go_enter Try.func33, Try.ntmps33
    go_wp2_with fail
    (refine (asB (validKiln_any _ _ _ _ xs _ (hA.below (by first | (go_grown; done) | (go_split_ands; assumption)))) G.out).mono ?_; rintro e w1 ⟨rfl, hb1⟩; obtain ⟨hc1, hf1⟩ := bcell hb1; have hz1 := hb1.size; (try simp only [World.size_alloc] at hz1); (try simp only [World.size_setCell] at hz1); (try simp only [World.size_drew] at hz1); (try have L1 : w.heap.size < w1.heap.size := by omega); have B1 : Below w.heap.size w w1 := bel_tr (by first | (go_grown; done) | (go_split_ands; assumption)) hb1)
    go_wp2_with fail
    (refine (fireGap_any _ _ _ _ xs _ (hA.below (by first | (go_grown; done) | (go_split_ands; assumption))) p8 p6 p7).mono ?_; rintro e w2 ⟨rfl, hb2⟩; obtain ⟨hc2, hf2⟩ := bcell hb2; have hz2 := hb2.size; (try simp only [World.size_alloc] at hz2); (try simp only [World.size_setCell] at hz2); (try simp only [World.size_drew] at hz2); (try have L2 : w.heap.size < w2.heap.size := by omega); have B2 : Below w.heap.size w w2 := bel_tr (by first | (go_grown; done) | (go_split_ands; assumption)) hb2)
    go_wp2_with fail
    go_ret2
    exact Two.mk E.out B2
  · have E := Lib.hid (show fireGapF ch xs = (0, 1) by rw [fireGapF, g]; rfl)
    have G := Lib.hid g; clear g
    go_enter Try.func33, Try.ntmps33
    go_wp2_with fail
    (refine (asB (validKiln_any _ _ _ _ xs _ (hA.below (by first | (go_grown; done) | (go_split_ands; assumption)))) G.out).mono ?_; rintro e w1 ⟨rfl, hb1⟩; obtain ⟨hc1, hf1⟩ := bcell hb1; have hz1 := hb1.size; (try simp only [World.size_alloc] at hz1); (try simp only [World.size_setCell] at hz1); (try simp only [World.size_drew] at hz1); (try have L1 : w.heap.size < w1.heap.size := by omega); have B1 : Below w.heap.size w w1 := bel_tr (by first | (go_grown; done) | (go_split_ands; assumption)) hb1)
    go_wp2_with fail
    go_ret2
    exact Two.mk E.out B1
end Go.Proofs.Ytnccooeaeomjfaa
