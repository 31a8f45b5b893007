/- Causes of batches: whether a batch has a cause, the reference's way and the program's. -/
import Derived.Test.YtmapjepdcbpalaaGreatDoorB1
import Derived.Test.YtmapjepdcbpalaaGreatDoorRCause
namespace Go.Proofs.YtmapjepdcbpalaaGreatDoor
open Go.RowKit
set_option linter.unusedVariables false

theorem below_drew {B : Nat} {a w : World} (h : Below B a w) : Below B a w.drew := ⟨h.os, h.tape, h.output, h.size, h.block⟩
def Cause.eqB (a b : Cause) : Bool := a.Kind == b.Kind && a.Number == b.Number
def causeB (c : Cause) : Bool := inB c.Kind 1 3 && inB c.Number 1 20
def hasB (b : Batch) (c : Cause) : Bool := if c.Kind = 1 then b.Clay == c.Number else if c.Kind = 2 then b.Mould == c.Number else b.Chamber == c.Number
def causesL (b : Batch) : List Cause := [⟨1, b.Clay⟩, ⟨2, b.Mould⟩, ⟨3, b.Chamber⟩]
theorem causeB_parts {c : Cause} (h : causeB c = true) : (1 ≤ c.Kind ∧ c.Kind ≤ 3) ∧ 1 ≤ c.Number ∧ c.Number ≤ 20 := by
  simp only [causeB, Bool.and_eq_true, inB_true] at h; exact h
theorem has_eq {b : Batch} {c : Cause} (h : causeB c = true) : (causesL b).any (Cause.eqB c) = hasB b c := by
  have hk := (causeB_parts h).1
  have h3 : c.Kind = 1 ∨ c.Kind = 2 ∨ c.Kind = 3 := by omega
  rw [Bool.eq_iff_iff]
  simp only [causesL, Cause.eqB, hasB, List.any_cons, List.any_nil, Bool.or_false, Bool.or_eq_true, Bool.and_eq_true, beq_iff_eq]
  rcases h3 with h3 | h3 | h3 <;> rw [h3] <;> simp <;> exact eq_comm

set_option maxHeartbeats 1000000 in
theorem l18Has_any (b : Batch) (c : Cause) (w : World) :
    Calls Tryz.prog 32 #[.agg #[.int .i64 b.Clay, .int .i64 b.Mould, .int .i64 b.Chamber, .bool b.Bad], .agg #[.int .i64 c.Kind, .int .i64 c.Number]] w fun e w' => e = .returned (.bool (hasB b c)) ∧ Below w.heap.size w w' := by
  rcases Bool.eq_false_or_eq_true (c.Kind == 1) with g | g
  · have E := Lib.hid (show hasB b c = (b.Clay == c.Number) by rw [hasB, if_pos (by simpa using g)])
    go_enter Tryz.func32, Tryz.ntmps32
    go_wp2_with fail
    repeat (first | (go_quiet (fail); go_wp2) | fail)
    go_ret
    exact ⟨ret_bool (by rw [E.out]), by first | (go_grown; done) | exact below_drewN (by go_grown) _⟩
  · rcases Bool.eq_false_or_eq_true (c.Kind == 2) with g2 | g2
    · have E := Lib.hid (show hasB b c = (b.Mould == c.Number) by rw [hasB, if_neg (by simpa using g), if_pos (by simpa using g2)])
      go_enter Tryz.func32, Tryz.ntmps32
      go_wp2_with fail
      repeat (first | (go_quiet (fail); go_wp2) | fail)
      go_ret
      exact ⟨ret_bool (by rw [E.out]), by first | (go_grown; done) | exact below_drewN (by go_grown) _⟩
    · have E := Lib.hid (show hasB b c = (b.Chamber == c.Number) by rw [hasB, if_neg (by simpa using g), if_neg (by simpa using g2)])
      go_enter Tryz.func32, Tryz.ntmps32
      go_wp2_with fail
      repeat (first | (go_quiet (fail); go_wp2) | fail)
      go_ret
      exact ⟨ret_bool (by rw [E.out]), by first | (go_grown; done) | exact below_drewN (by go_grown) _⟩

theorem l18Cause_any (c : Cause) (w : World) :
    Calls Tryz.prog 55 #[.agg #[.int .i64 c.Kind, .int .i64 c.Number]] w fun e w' => e = .returned (.bool (causeB c)) ∧ Below w.heap.size w w' := by
  have E := Lib.hid (show causeB c = (inB c.Kind 1 3 && inB c.Number 1 20) from rfl)
  rcases Bool.eq_false_or_eq_true (inB c.Kind 1 3) with g | g
  · have G := Lib.hid g; clear g
    go_enter Tryz.func55, Tryz.ntmps55
    go_wp2_with fail
    refine (asB (in_any _ _ _ _) G.out).mono ?_; rintro e w' ⟨rfl, rfl⟩
    go_wp2_with fail
    refine (l18Number_any _ _).mono ?_; rintro e w' ⟨rfl, rfl⟩
    go_wp2_with fail
    go_ret
    exact ⟨ret_bool (by rw [E.out, G.out]; simp), by go_grown⟩
  · have G := Lib.hid g; clear g
    go_enter Tryz.func55, Tryz.ntmps55
    go_wp2_with fail
    refine (asB (in_any _ _ _ _) G.out).mono ?_; rintro e w' ⟨rfl, rfl⟩
    go_wp2_with fail
    go_ret
    exact ⟨ret_bool (by rw [E.out, G.out]; simp), by go_grown⟩
theorem isCause_any (c : Cause) (w : World) :
    Calls Tryz.prog 18 #[.agg #[.int .i64 c.Kind, .int .i64 c.Number]] w fun e w' => e = .returned (.bool (causeB c)) ∧ Below w.heap.size w w' := by
  have E := Lib.hid (show causeB c = (inB c.Kind 1 3 && inB c.Number 1 20) from rfl)
  rcases Bool.eq_false_or_eq_true (inB c.Kind 1 3) with g | g
  · have G := Lib.hid g; clear g
    go_enter Tryz.func18, Tryz.ntmps18
    go_wp2_with fail
    refine (asB (within_any _ _ _ _) G.out).mono ?_; rintro e w' ⟨rfl, rfl⟩
    go_wp2_with fail
    refine (within_any _ _ _ _).mono ?_; rintro e w' ⟨rfl, rfl⟩
    go_wp2_with fail
    go_ret
    exact ⟨ret_bool (by rw [E.out, G.out]; simp), by go_grown⟩
  · have G := Lib.hid g; clear g
    go_enter Tryz.func18, Tryz.ntmps18
    go_wp2_with fail
    refine (asB (within_any _ _ _ _) G.out).mono ?_; rintro e w' ⟨rfl, rfl⟩
    go_wp2_with fail
    go_ret
    exact ⟨ret_bool (by rw [E.out, G.out]; simp), by go_grown⟩

set_option maxHeartbeats 1000000 in
theorem indexCause_any (A : Option Addr) (n c : Nat) (xs : List Cause) (x : Cause) (w : World) (hA : CauseS w A n xs) :
    Calls Tryz.prog 62 #[.slice A n c, .agg #[.int .i64 x.Kind, .int .i64 x.Number]] w (IsIdxB (fun r => decide (0 ≤ r) = xs.any (Cause.eqB x)) w) := by
  have hn := hA.bound
  have L := Lib.hid hA.len
  go_enter Tryz.func62, Tryz.ntmps62
  go_wp2
  go_loopw [8] (fun i wr => ∃ k : Nat, k ≤ n ∧ i = .int .i64 k ∧ (xs.take k).any (Cause.eqB x) = false ∧ Below w.heap.size w wr ∧ wr.cell? ⟨w.heap.size, 0, none⟩ = some (.int .i64 x.Kind) ∧ wr.cell? ⟨w.heap.size, 1, none⟩ = some (.int .i64 x.Number) ∧ w.heap.size < wr.heap.size) (fun i _ => n - (intOf i).toNat)
  case atStart => exact ⟨0, Nat.zero_le _, rfl, rfl, by go_grown, by go_simp, by go_simp, by simp⟩
  case round =>
    obtain ⟨k, hk, rfl, hall, hbel, v0, v1, vl⟩ := hrel
    have HA := Lib.hid hall; clear hall
    by_cases hlt : k < n
    · obtain ⟨b, off, rfl, hb, hc⟩ := (hA.below hbel).cell (by omega)
      have hlx : k < xs.length := by rw [hA.len]; exact hlt
      obtain ⟨hq0, hq1⟩ := hc k hlt
      clear hc
      rcases Bool.eq_false_or_eq_true (x.Kind == (nt xs k).Kind) with g0 | g0
      · rcases Bool.eq_false_or_eq_true (x.Number == (nt xs k).Number) with g1 | g1
        · have Q := Lib.hid (show Cause.eqB x (nt xs k) = true by rw [Cause.eqB, g0, g1]; rfl)
          go_wp2
          go_quiet (fail)
          go_wp2
          go_ret
          exact ⟨_, rfl, by
            have h1 : xs.any (Cause.eqB x) = true := by rw [List.any_eq_true]; exact ⟨nt xs k, nt_mem hlx, Q.out⟩
            rw [h1]; simp, below_drewN hbel _⟩
        · have Q := Lib.hid (show Cause.eqB x (nt xs k) = false by rw [Cause.eqB, g1]; simp)
          go_wp2
          go_quiet (fail)
          go_wp2
          go_roundw
          case rel => exact ⟨k + 1, by omega, by go_num, by rw [take_snoc_nt hlx, List.any_append, HA.out]; simpa using Q.out, below_drewN hbel _, by go_simp, by go_simp, by simpa using vl⟩
          case measure => simp [intOf]; omega
      · have Q := Lib.hid (show Cause.eqB x (nt xs k) = false by rw [Cause.eqB, g0]; simp)
        go_wp2
        go_quiet (fail)
        go_wp2
        go_roundw
        case rel => exact ⟨k + 1, by omega, by go_num, by rw [take_snoc_nt hlx, List.any_append, HA.out]; simpa using Q.out, below_drewN hbel _, by go_simp, by go_simp, by simpa using vl⟩
        case measure => simp [intOf]; omega
    · go_wp2
      go_ret
      exact ⟨_, rfl, by
        have := HA.out; rw [List.take_of_length_le (by rw [L.out]; omega)] at this
        rw [this]; rfl, hbel⟩
theorem containsCause_any (A : Option Addr) (n c : Nat) (xs : List Cause) (x : Cause) (w : World) (hA : CauseS w A n xs) :
    Calls Tryz.prog 41 #[.slice A n c, .agg #[.int .i64 x.Kind, .int .i64 x.Number]] w fun e w' => e = .returned (.bool (xs.any (Cause.eqB x))) ∧ Below w.heap.size w w' := by
  go_enter Tryz.func41, Tryz.ntmps41
  go_wp2_with fail
  refine (indexCause_any _ _ _ xs x _ (hA.below (by first | (go_grown; done) | (go_split_ands; assumption)))).mono ?_; rintro e w1 ⟨r, rfl, hr, hb1⟩
  go_wp2_with fail
  go_ret
  exact ⟨ret_bool (by rw [← hr]), bel_tr (by go_grown) hb1⟩

def MadeCauses (b : Batch) (w : World) (e : Ending) (w' : World) : Prop := ∃ q, e = .returned (.slice (some ⟨q, 0, none⟩) 3 3) ∧ CauseS w' (some ⟨q, 0, none⟩) 3 (causesL b) ∧ Below w.heap.size w w'
set_option maxHeartbeats 1000000 in
theorem causes_any (b : Batch) (w : World) :
    Calls Tryz.prog 37 #[.agg #[.int .i64 b.Clay, .int .i64 b.Mould, .int .i64 b.Chamber, .bool b.Bad]] w (MadeCauses b w) := by
  go_enter Tryz.func37, Tryz.ntmps37
  go_wp2_with fail
  repeat (first | (go_quiet (fail); go_wp2) | fail)
  go_ret
  refine ⟨_, rfl, ⟨rfl, by omega, fun _ => ⟨_, 0, rfl, by simp, fun j hj => ?_⟩⟩, by go_grown⟩
  have h3 : j = 0 ∨ j = 1 ∨ j = 2 := by omega
  rcases h3 with rfl | rfl | rfl
  · exact ⟨by go_simp; rfl, by go_simp; rfl⟩
  · exact ⟨by go_simp; rfl, by go_simp; rfl⟩
  · exact ⟨by go_simp; rfl, by go_simp; rfl⟩

theorem has_any (b : Batch) (c : Cause) (w : World) (hc : causeB c = true) :
    Calls Tryz.prog 19 #[.agg #[.int .i64 b.Clay, .int .i64 b.Mould, .int .i64 b.Chamber, .bool b.Bad], .agg #[.int .i64 c.Kind, .int .i64 c.Number]] w fun e w' => e = .returned (.bool (hasB b c)) ∧ Below w.heap.size w w' := by
  have E := Lib.hid (has_eq (b := b) hc); clear hc
  go_enter Tryz.func19, Tryz.ntmps19
  go_wp2
  first | go_region_with ((first | (go_at_call 37; refine (causes_any b _).mono ?_; rintro e w1 ⟨q, rfl, hS, hb1⟩; obtain ⟨hc1, hf1⟩ := bcell hb1; have HS := Lib.hid hS; clear hS) | (go_at_call 41; refine (containsCause_any _ _ _ (causesL b) c _ (by first | exact HS.out | exact HS.out.below (below_drewN (Below.refl _ _) _) | exact HS.out.below (by first | (go_grown; done) | (go_split_ands; assumption)))).mono ?_; rintro e w2 ⟨rfl, hb2⟩))) | fail
  all_goals
    go_wp2
    go_ret
    have T1 : Below w.heap.size w w1 := bel_tr (by first | (go_grown; done) | exact below_drew (by go_grown) | exact below_drew (below_drew (by go_grown))) hb1
    have T2 : Below w.heap.size w w2 := by first | exact bel_tr T1 hb2 | exact bel_tr (below_drew T1) hb2 | exact bel_tr (below_drew (below_drew T1)) hb2
    exact ⟨ret_bool (by rw [E.out]), by first | exact T2 | exact below_drew T2⟩
end Go.Proofs.YtmapjepdcbpalaaGreatDoor
