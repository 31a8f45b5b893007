/- The contracts of PointsOf, the reference's and the program's. -/
import Derived.Test.YtoghgbbepjpelaaW2
import Derived.Test.YtoghgbbepjpelaaLs
namespace Go.Proofs.Ytoghgbbepjpelaa
open Go.RowKit
set_option linter.unusedVariables false

/-- The points of the first k days. -/
def ptsL (s : ByteArray) : Nat → List Int
  | 0 => []
  | k + 1 => ptsL s k ++ [ptAt s k]
theorem ptsL_len (s : ByteArray) : ∀ k, (ptsL s k).length = k := by
  intro k
  induction k with
  | zero => rfl
  | succ k ih => rw [ptsL, List.length_append, ih]; rfl
theorem ptsL_next {s : ByteArray} {k : Nat} {v : Int} (h : ptAt s k = v) : (ptsL s (k + 1)).map (Value.int .i64) = (ptsL s k).map (Value.int .i64) ++ [.int .i64 v] := by
  rw [ptsL, List.map_append, h]; rfl
def poL (s : ByteArray) : List Int := if weatherB s = true then ptsL s s.size else []
def poC (s : ByteArray) : Int := if weatherB s = true then 0 else 7

set_option maxHeartbeats 1000000 in
theorem specPointsOf_any (s : ByteArray) (w : World) (hs : s.size ≤ 9223372036854775807) :
    Calls Try.prog 36 #[.string s] w (ListC (poL s) (poC s) w) := by
  rcases Bool.eq_false_or_eq_true (weatherB s) with g | g
  · have E := Lib.hid (show poL s = ptsL s s.size by rw [poL, if_pos g])
    have E2 := Lib.hid (show poC s = 0 by rw [poC, if_pos g])
    obtain ⟨h60, hpt⟩ := weatherB_parts g
    have G := Lib.hid g; clear g hpt
    go_enter Try.func36, Try.ntmps36
    go_wp2_with fail
    refine (asB (l15Weather_any s _ hs) G.out).mono ?_; rintro e w' ⟨rfl, rfl⟩
    go_wp2_with fail
    go_loopw [4, 5] (fun v i wr => ∃ k : Nat, k ≤ s.size ∧ i = .int .i64 k ∧ OwnS wr w.heap.size 2 v ((ptsL s k).map (.int .i64)) ∧ Below w.heap.size w wr) (fun _ i _ => s.size - (intOf i).toNat)
    case atStart => exact ⟨0, Nat.zero_le _, rfl, OwnS.made' (Nat.le_refl _) rfl, by go_grown⟩
    case round =>
      obtain ⟨k, hk, rfl, hO, hB⟩ := hrel
      have HO := Lib.hid hO; clear hO
      have hz := hB.size
      by_cases hlt : k < s.size
      · have hby : (s[k].toNat : Int) ≤ 255 := by have := s[k].toNat_lt; omega
        have Q := Lib.hid (ptsL_next (ptAt_lt hlt))
        have HL := Lib.hid (show ((ptsL s k).map (Value.int .i64)).length ≤ 1048576 by rw [List.length_map, ptsL_len]; omega)
        go_wp2_with fail
        refine (l15Points_any _ _ (by omega) hby).mono ?_; rintro e w' ⟨rfl, rfl⟩
        go_wp2_with (at_builtin; refine wpList_app1 _ rfl (.tmp 16) (.tmp 21) 24 rfl (w.heap.size) 2 (.int .i64 0) 8 Try.underlying24 info_i64 rfl _ _ (HO.out) rfl _ _ rfl (by simp) rfl HL.out (by omega) hz ?_; intro v2 w2 hO2 hk2 hs2)
        have hB2 := hk2 (Nat.le_refl _) hB
        go_roundw
        case rel => exact ⟨k + 1, by omega, by go_num, by rw [Q.out]; exact hO2, hB2⟩
        case measure => simp [intOf]; omega
      · obtain rfl : s.size = k := by omega
        go_wp2
        go_ret2
        rw [E.out, E2.out]
        exact ListC.own HO.out (by rw [ptsL_len]; omega) (Nat.le_refl _) hB
  · have E := Lib.hid (show poL s = [] by rw [poL, g]; rfl)
    have E2 := Lib.hid (show poC s = 7 by rw [poC, g]; rfl)
    have G := Lib.hid g; clear g
    go_enter Try.func36, Try.ntmps36
    go_wp2_with fail
    refine (asB (l15Weather_any s _ hs) G.out).mono ?_; rintro e w' ⟨rfl, rfl⟩
    go_wp2_with fail
    go_ret2
    rw [E.out, E2.out]
    exact ListC.none_ (Below.refl _ _)

set_option maxHeartbeats 1000000 in
theorem implPointsOf_any (s : ByteArray) (w : World) (hs : s.size ≤ 9223372036854775807) :
    Calls Try.prog 35 #[.string s] w (ListC (poL s) (poC s) w) := by
  rcases Bool.eq_false_or_eq_true (weatherB s) with g | g
  · have E := Lib.hid (show poL s = ptsL s s.size by rw [poL, if_pos g])
    have E2 := Lib.hid (show poC s = 0 by rw [poC, if_pos g])
    obtain ⟨h60, hpt⟩ := weatherB_parts g
    have HP := Lib.hid hpt
    have G := Lib.hid g; clear g hpt
    go_enter Try.func35, Try.ntmps35
    go_wp2_with fail
    refine (asB (isWeather_any s _ hs) G.out).mono ?_; rintro e w' ⟨rfl, rfl⟩
    go_wp2_with fail
    go_loopw [4, 12] (fun v i wr => ∃ k : Nat, k ≤ s.size ∧ i = .int .i64 k ∧ OwnS wr w.heap.size 2 v ((ptsL s k).map (.int .i64)) ∧ Below w.heap.size w wr) (fun _ i _ => s.size - (intOf i).toNat)
    case atStart => exact ⟨0, Nat.zero_le _, rfl, OwnS.made' (Nat.le_refl _) rfl, by go_grown⟩
    case round =>
      obtain ⟨k, hk, rfl, hO, hB⟩ := hrel
      have HO := Lib.hid hO; clear hO
      have hz := hB.size
      by_cases hlt : k < s.size
      · have hby : (s[k].toNat : Int) ≤ 255 := by have := s[k].toNat_lt; omega
        have q0 := HP.out k
        rw [ptAt_lt hlt] at q0
        have Q := Lib.hid (ptsL_next (ptAt_lt hlt))
        have HL := Lib.hid (show ((ptsL s k).map (Value.int .i64)).length ≤ 1048576 by rw [List.length_map, ptsL_len]; omega)
        go_wp2_with fail
        refine (pointsOf_any _ _ (by omega) hby q0).mono ?_; rintro e w' ⟨rfl, rfl⟩
        go_wp2_with (at_builtin; refine wpList_app1 _ rfl (.tmp 15) (.tmp 20) 24 rfl (w.heap.size) 2 (.int .i64 0) 8 Try.underlying24 info_i64 rfl _ _ (HO.out) rfl _ _ rfl (by simp) rfl HL.out (by omega) hz ?_; intro v2 w2 hO2 hk2 hs2)
        have hB2 := hk2 (Nat.le_refl _) hB
        go_roundw
        case rel => exact ⟨k + 1, by omega, by go_num, by rw [Q.out]; exact hO2, hB2⟩
        case measure => simp [intOf]; omega
      · obtain rfl : s.size = k := by omega
        go_wp2
        go_ret2
        rw [E.out, E2.out]
        exact ListC.own HO.out (by rw [ptsL_len]; omega) (Nat.le_refl _) hB
  · have E := Lib.hid (show poL s = [] by rw [poL, g]; rfl)
    have E2 := Lib.hid (show poC s = 7 by rw [poC, g]; rfl)
    have G := Lib.hid g; clear g
    go_enter Try.func35, Try.ntmps35
    go_wp2_with fail
    refine (asB (isWeather_any s _ hs) G.out).mono ?_; rintro e w' ⟨rfl, rfl⟩
    go_wp2_with fail
    go_ret2
    rw [E.out, E2.out]
    exact ListC.none_ (Below.refl _ _)
end Go.Proofs.Ytoghgbbepjpelaa
