/- The contracts of HottestHour, the reference's and the program's, and of slices.Max and slices.Index at []int64. -/
import Derived.Test.YtoghgbbepjpelaaH1
namespace Go.Proofs.Ytoghgbbepjpelaa
open Go.RowKit
set_option linter.unusedVariables false

/-- The first of the hottest hours. -/
noncomputable def hotV (ds : List Int) : Int := open Classical in if h : ∃ b : Nat, IsHot ds ds.length b then ((Classical.choose h : Nat) : Int) else 0
theorem hotV_is {ds : List Int} {b : Nat} (h : IsHot ds ds.length b) : hotV ds = b := by
  have hx : ∃ b : Nat, IsHot ds ds.length b := ⟨b, h⟩
  unfold hotV
  rw [dif_pos hx]
  have := (Classical.choose_spec hx).unique h
  rw [this]
noncomputable def hotF (ds : List Int) : Int × Int := if firB ds = true then (hotV ds, 0) else (0, 2)

set_option maxHeartbeats 1000000 in
theorem specHottestHour_any (A : Option Addr) (n c : Nat) (ds : List Int) (w : World) (hA : Ints w A n ds) :
    Calls Try.prog 14 #[.slice A n c] w (Two (hotF ds) w) := by
  have hn := hA.bound
  rcases Bool.eq_false_or_eq_true (firB ds) with g | g
  · have E := Lib.hid (show hotF ds = (hotV ds, 0) by rw [hotF, if_pos g])
    have hl := firB_parts g
    obtain ⟨hl0, hl1, _⟩ := hl
    rw [hA.len] at hl0 hl1
    have L := Lib.hid hA.len
    have G := Lib.hid g; clear g
    go_enter Try.func14, Try.ntmps14
    go_wp2_with (go_at_call 52; refine (degrees_ok hA G.out).mono ?_; rintro e w' ⟨rfl, rfl⟩)
    go_loopw [5, 6] (fun s i wr => ∃ k b : Nat, k + 1 ≤ n ∧ i = .int .i64 ((k : Int) + 1) ∧ s = .int .i64 b ∧ IsHot ds (k + 1) b ∧ ∃ q, wr = w.drewN q) (fun _ i _ => n + 1 - (intOf i).toNat)
    case atStart => exact ⟨0, 0, by omega, rfl, rfl, ⟨by omega, fun j hj => by obtain rfl : j = 0 := by omega
                                                                               omega, fun j hj => absurd hj (by omega)⟩, 0, rfl⟩
    case round =>
      obtain ⟨k, bb, hk, rfl, rfl, hh, q, rfl⟩ := hrel
      have hbl := hh.lt
      have HH := Lib.hid hh; clear hh
      by_cases hlt : k + 1 < n
      · obtain ⟨b, off, rfl, hb, hc⟩ := hA.cell (by omega)
        have hck := hc bb (by omega)
        have hck1 := hc (k + 1) hlt
        have hi0 : (0 : Int) ≤ (k : Int) + 1 := by omega
        have hi1 : (k : Int) + 1 < (n : Int) := by omega
        have hi2 : (bb : Int) < (n : Int) := by omega
        clear hc
        go_wp2
        go_quiet (fail)
        go_wp2
        · rename_i hq
          have HQ := Lib.hid hq
          go_roundw
          case rel => exact ⟨k + 1, k + 1, by omega, by go_num, by go_num, HH.out.step_yes (by simpa using HQ.out), _, rfl⟩
          case measure => simp [intOf]; omega
        · rename_i hq
          have HQ := Lib.hid hq
          go_roundw
          case rel => exact ⟨k + 1, bb, by omega, by go_num, rfl, HH.out.step_no (by simpa using HQ.out), _, rfl⟩
          case measure => simp [intOf]; omega
      · obtain rfl : n = k + 1 := by omega
        go_wp2
        go_ret2
        exact Two.mk (by rw [E.out, hotV_is (by rw [L.out]; exact HH.out)]) (below_drewN (Below.refl _ _) _)
  · have E := Lib.hid (show hotF ds = (0, 2) by rw [hotF, g]; rfl)
    have G := Lib.hid g; clear g
    go_enter Try.func14, Try.ntmps14
    go_wp2_with (go_at_call 52; refine (degrees_no hA G.out).mono ?_; rintro e w' ⟨rfl, rfl⟩)
    go_ret2
    exact Two.mk E.out (Below.refl _ _)

/-- m is the greatest of the first n. -/
structure IsMax (ds : List Int) (n : Nat) (m : Int) : Prop where
  all : ∀ j, j < n → nth ds j ≤ m
  some_ : ∃ j, j < n ∧ nth ds j = m
def MaxPost (ds : List Int) (n : Nat) (w : World) (e : Ending) (w' : World) : Prop := ∃ m : Int, e = .returned (.int .i64 m) ∧ IsMax ds n m ∧ w = w'
theorem IsMax.step {ds : List Int} {n : Nat} {m : Int} (h : IsMax ds n m) : IsMax ds (n + 1) (max m (nth ds n)) :=
  ⟨fun j hj => by
    rcases Nat.lt_or_ge j n with hl | hl
    · have := h.all j hl; omega
    · obtain rfl : j = n := by omega
      omega, by
    obtain ⟨j, hj, e⟩ := h.some_
    rcases Int.le_total m (nth ds n) with hl | hl
    · exact ⟨n, by omega, by omega⟩
    · exact ⟨j, by omega, by omega⟩⟩

set_option maxHeartbeats 400000 in
theorem slicesMax_any (A : Option Addr) (n c : Nat) (ds : List Int) (w : World) (hA : Ints w A n ds) (hp : 1 ≤ n) :
    Calls Try.prog 56 #[.slice A n c] w (MaxPost ds n w) := by
  have hn := hA.bound
  obtain ⟨b, off, rfl, hb, hc⟩ := hA.cell (by omega)
  have hc0 := hc 0 (by omega)
  simp only [Nat.add_zero] at hc0
  have HC := Lib.hid hc; clear hc
  go_enter Try.func56, Try.ntmps56
  go_wp2
  go_loop [3, 4] (fun s i => ∃ (k : Nat) (m : Int), k + 1 ≤ n ∧ i = .int .i64 ((k : Int) + 1) ∧ s = .int .i64 m ∧ IsMax ds (k + 1) m) (fun _ i => n + 1 - (intOf i).toNat)
  case atStart => exact ⟨0, _, by omega, rfl, rfl, ⟨fun j hj => by obtain rfl : j = 0 := by omega
                                                                   omega, 0, by omega, rfl⟩⟩
  case round =>
    obtain ⟨k, m, hk, rfl, rfl, hm⟩ := hrel
    have HM := Lib.hid hm; clear hm
    by_cases hlt : k + 1 < n
    · have hck := HC.out (k + 1) hlt
      go_wp2
      all_goals
        go_round
        case rel => exact ⟨k + 1, _, by omega, by go_num, rfl, by have e : (if m < nth ds (k + 1) then nth ds (k + 1) else m) = max m (nth ds (k + 1)) := by split <;> omega
                                                                  have := HM.out.step; first | exact this | (rw [e]; exact this)⟩
        case measure => simp [intOf]; omega
    · obtain rfl : n = k + 1 := by omega
      go_wp2
      go_ret
      exact ⟨m, rfl, HM.out, rfl⟩

set_option maxHeartbeats 400000 in
theorem slicesIndex_any (A : Option Addr) (n c : Nat) (ds : List Int) (m : Int) (w : World) (hA : Ints w A n ds) (hm : IsMax ds n m) :
    Calls Try.prog 55 #[.slice A n c, .int .i64 m] w fun e w' => e = .returned (.int .i64 (hotV ds)) ∧ w = w' := by
  have hn := hA.bound
  have HM := Lib.hid hm; clear hm
  go_enter Try.func55, Try.ntmps55
  go_wp2
  go_loop [8] (fun i => ∃ k : Nat, k ≤ n ∧ i = .int .i64 k ∧ ∀ j, j < k → nth ds j < m) (fun i => n - (intOf i).toNat)
  case atStart => exact ⟨0, Nat.zero_le _, rfl, fun j hj => absurd hj (by omega)⟩
  case round =>
    obtain ⟨k, hk, rfl, hlo⟩ := hrel
    have HL := Lib.hid hlo; clear hlo
    by_cases hlt : k < n
    · obtain ⟨b, off, rfl, hb, hc⟩ := hA.cell (by omega)
      have hck := hc k hlt
      have hle := HM.out.all k hlt
      clear hc
      by_cases hq : nth ds k = m
      · have H := Lib.hid (hotV_is (ds := ds) (b := k) (by rw [hA.len]; exact ⟨hlt, fun j hj => by rw [hq]; exact HM.out.all j hj, fun j hj => by rw [hq]; exact HL.out j hj⟩))
        have he : (m == nth ds k) = true := by simp [hq]
        clear hq
        go_wp2
        go_ret
        exact ⟨ret_int H.out.symm, rfl⟩
      · have he : (m == nth ds k) = false := by simpa using fun h => hq h.symm
        have HQ := Lib.hid hq; clear hq
        go_wp2
        go_round
        case rel => exact ⟨k + 1, by omega, by go_num, fun j hj => by
          rcases Nat.lt_or_ge j k with h | h
          · exact HL.out j h
          · obtain rfl : j = k := by omega
            have := HQ.out; omega⟩
        case measure => simp [intOf]; omega
    · obtain rfl : k = n := by omega
      exfalso
      obtain ⟨j, hj, e⟩ := HM.out.some_
      have := HL.out j hj
      omega

set_option maxHeartbeats 400000 in
theorem implHottestHour_any (A : Option Addr) (n c : Nat) (ds : List Int) (w : World) (hA : Ints w A n ds) :
    Calls Try.prog 13 #[.slice A n c] w (Two (hotF ds) w) := by
  have hn := hA.bound
  rcases Bool.eq_false_or_eq_true (firB ds) with g | g
  · have E := Lib.hid (show hotF ds = (hotV ds, 0) by rw [hotF, if_pos g])
    have hl := firB_parts g
    obtain ⟨hl0, hl1, _⟩ := hl
    rw [hA.len] at hl0 hl1
    have G := Lib.hid g; clear g
    go_enter Try.func13, Try.ntmps13
    go_wp2_with fail
    refine (asB (isFiring_any _ _ _ ds _ hA) G.out).mono ?_; rintro e w0 ⟨rfl, hb0⟩
    go_wp2_with fail
    refine (slicesMax_any _ _ _ ds _ (hA.below hb0) hl0).mono ?_; rintro e w' ⟨m, rfl, hm, rfl⟩
    go_wp2_with fail
    refine (slicesIndex_any _ _ _ ds _ _ (hA.below hb0) hm).mono ?_; rintro e w' ⟨rfl, rfl⟩
    go_wp2_with fail
    go_ret2
    exact Two.mk E.out hb0
  · have E := Lib.hid (show hotF ds = (0, 2) by rw [hotF, g]; rfl)
    have G := Lib.hid g; clear g
    go_enter Try.func13, Try.ntmps13
    go_wp2_with fail
    refine (asB (isFiring_any _ _ _ ds _ hA) G.out).mono ?_; rintro e w0 ⟨rfl, hb0⟩
    go_wp2_with fail
    go_ret2
    exact Two.mk E.out hb0
end Go.Proofs.Ytoghgbbepjpelaa
