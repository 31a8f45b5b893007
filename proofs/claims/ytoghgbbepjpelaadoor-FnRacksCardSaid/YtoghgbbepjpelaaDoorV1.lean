/- The contracts of the functions over racks: l15One, l15Ok, ValidRacks, validRack. -/
import Derived.Test.YtoghgbbepjpelaaDoorRRack
import Derived.Test.YtoghgbbepjpelaaDoorSm
import Derived.Test.YtoghgbbepjpelaaDoorTw
namespace Go.Proofs.YtoghgbbepjpelaaDoor
open Go.RowKit
set_option linter.unusedVariables false

theorem all_succ {α : Type} [Inhabited α] {xs : List α} {p : α → Bool} {k : Nat} (h : k < xs.length) : (xs.take (k + 1)).all p = ((xs.take k).all p && p (nt xs k)) := by
  rw [take_snoc_nt h]; simp
theorem all_bad {α : Type} [Inhabited α] {xs : List α} {p : α → Bool} {k : Nat} (h : k < xs.length) (hk : p (nt xs k) = false) : xs.all p = false := by
  rw [List.all_eq_false]
  exact ⟨nt xs k, nt_mem h, by rw [hk]; simp⟩

def Rack.okB (r : Rack) : Bool := inB r.Room 1 2000 && inB r.Holds 0 r.Room && inB r.Since 0 60 && inB r.Needs 0 1000 && (decide (0 < r.Holds) || ((r.Since == 0) && (r.Needs == 0)))
def racksOk (xs : List Rack) : Bool := xs.all Rack.okB && decide (xs.length ≤ 20)

set_option maxHeartbeats 1000000 in
theorem l15One_any (b o : Nat) (r : Rack) (w : World) (hr : r.lies w b o) :
    Calls Tryd.prog 57 #[.pointer (some ⟨b, o, none⟩)] w fun e w' => e = .returned (.bool r.okB) ∧ Below w.heap.size w w' := by
  obtain ⟨h0, h1, h2, h3⟩ := hr
  have E := Lib.hid (show r.okB = (inB r.Room 1 2000 && inB r.Holds 0 r.Room && inB r.Since 0 60 && inB r.Needs 0 1000 && (decide (0 < r.Holds) || ((r.Since == 0) && (r.Needs == 0)))) from rfl)
  rcases Bool.eq_false_or_eq_true (inB r.Room 1 2000) with g0 | g0
  · have G0 := Lib.hid g0; clear g0
    rcases Bool.eq_false_or_eq_true (inB r.Holds 0 r.Room) with g1 | g1
    · have G1 := Lib.hid g1; clear g1
      rcases Bool.eq_false_or_eq_true (inB r.Since 0 60) with g2 | g2
      · have G2 := Lib.hid g2; clear g2
        rcases Bool.eq_false_or_eq_true (inB r.Needs 0 1000) with g3 | g3
        · have G3 := Lib.hid g3; clear g3
          rcases Bool.eq_false_or_eq_true (decide (0 < r.Holds)) with q0 | q0
          · have X0 := Lib.hid q0
            go_enter Tryd.func57, Tryd.ntmps57
            go_wp2
            go_quiet (first | (go_at_call 49; exact q_same (asB (in_any _ _ _ _) G0.out)) | (go_at_call 49; exact q_same (asB (in_any _ _ _ _) G1.out)) | (go_at_call 49; exact q_same (asB (in_any _ _ _ _) G2.out)) | (go_at_call 49; exact q_same (asB (in_any _ _ _ _) G3.out)))
            go_wp2
            go_ret
            exact ⟨ret_bool (by rw [E.out, G0.out, G1.out, G2.out, G3.out, X0.out]; rfl), below_drewN (Below.refl _ _) _⟩
          · rcases Bool.eq_false_or_eq_true (r.Since == 0) with q1 | q1
            · rcases Bool.eq_false_or_eq_true (r.Needs == 0) with q2 | q2
              · have X0 := Lib.hid q0
                have X1 := Lib.hid q1
                have X2 := Lib.hid q2
                go_enter Tryd.func57, Tryd.ntmps57
                go_wp2
                go_quiet (first | (go_at_call 49; exact q_same (asB (in_any _ _ _ _) G0.out)) | (go_at_call 49; exact q_same (asB (in_any _ _ _ _) G1.out)) | (go_at_call 49; exact q_same (asB (in_any _ _ _ _) G2.out)) | (go_at_call 49; exact q_same (asB (in_any _ _ _ _) G3.out)))
                go_wp2
                go_ret
                exact ⟨ret_bool (by rw [E.out, G0.out, G1.out, G2.out, G3.out, X0.out, X1.out, X2.out]; rfl), below_drewN (Below.refl _ _) _⟩
              · have X0 := Lib.hid q0
                have X1 := Lib.hid q1
                have X2 := Lib.hid q2
                go_enter Tryd.func57, Tryd.ntmps57
                go_wp2
                go_quiet (first | (go_at_call 49; exact q_same (asB (in_any _ _ _ _) G0.out)) | (go_at_call 49; exact q_same (asB (in_any _ _ _ _) G1.out)) | (go_at_call 49; exact q_same (asB (in_any _ _ _ _) G2.out)) | (go_at_call 49; exact q_same (asB (in_any _ _ _ _) G3.out)))
                go_wp2
                go_ret
                exact ⟨ret_bool (by rw [E.out, G0.out, G1.out, G2.out, G3.out, X0.out, X1.out, X2.out]; rfl), below_drewN (Below.refl _ _) _⟩
            · have X0 := Lib.hid q0
              have X1 := Lib.hid q1
              go_enter Tryd.func57, Tryd.ntmps57
              go_wp2
              go_quiet (first | (go_at_call 49; exact q_same (asB (in_any _ _ _ _) G0.out)) | (go_at_call 49; exact q_same (asB (in_any _ _ _ _) G1.out)) | (go_at_call 49; exact q_same (asB (in_any _ _ _ _) G2.out)) | (go_at_call 49; exact q_same (asB (in_any _ _ _ _) G3.out)))
              go_wp2
              go_ret
              exact ⟨ret_bool (by rw [E.out, G0.out, G1.out, G2.out, G3.out, X0.out, X1.out]; rfl), below_drewN (Below.refl _ _) _⟩
        · have G3 := Lib.hid g3; clear g3
          go_enter Tryd.func57, Tryd.ntmps57
          go_wp2
          go_quiet (first | (go_at_call 49; exact q_same (asB (in_any _ _ _ _) G0.out)) | (go_at_call 49; exact q_same (asB (in_any _ _ _ _) G1.out)) | (go_at_call 49; exact q_same (asB (in_any _ _ _ _) G2.out)) | (go_at_call 49; exact q_same (asB (in_any _ _ _ _) G3.out)))
          go_wp2
          go_ret
          exact ⟨ret_bool (by rw [E.out, G3.out]; simp), below_drewN (Below.refl _ _) _⟩
      · have G2 := Lib.hid g2; clear g2
        go_enter Tryd.func57, Tryd.ntmps57
        go_wp2
        go_quiet (first | (go_at_call 49; exact q_same (asB (in_any _ _ _ _) G0.out)) | (go_at_call 49; exact q_same (asB (in_any _ _ _ _) G1.out)) | (go_at_call 49; exact q_same (asB (in_any _ _ _ _) G2.out)))
        go_wp2
        go_ret
        exact ⟨ret_bool (by rw [E.out, G2.out]; simp), below_drewN (Below.refl _ _) _⟩
    · have G1 := Lib.hid g1; clear g1
      go_enter Tryd.func57, Tryd.ntmps57
      go_wp2
      go_quiet (first | (go_at_call 49; exact q_same (asB (in_any _ _ _ _) G0.out)) | (go_at_call 49; exact q_same (asB (in_any _ _ _ _) G1.out)))
      go_wp2
      go_ret
      exact ⟨ret_bool (by rw [E.out, G1.out]; simp), below_drewN (Below.refl _ _) _⟩
  · have G0 := Lib.hid g0; clear g0
    go_enter Tryd.func57, Tryd.ntmps57
    go_wp2
    go_quiet (first | (go_at_call 49; exact q_same (asB (in_any _ _ _ _) G0.out)))
    go_wp2
    go_ret
    exact ⟨ret_bool (by rw [E.out, G0.out]; simp), below_drewN (Below.refl _ _) _⟩

theorem l15Ok_any (A : Option Addr) (n c : Nat) (xs : List Rack) (w : World) (hA : RackS w A n xs) :
    Calls Tryd.prog 51 #[.slice A n c] w fun e w' => e = .returned (.bool (racksOk xs)) ∧ Below w.heap.size w w' := by
  have hn := hA.bound
  have L := Lib.hid hA.len
  go_enter Tryd.func51, Tryd.ntmps51
  go_wp2
  go_loopw [3] (fun i wr => ∃ k : Nat, k ≤ n ∧ i = .int .i64 k ∧ (xs.take k).all Rack.okB = true ∧ Below w.heap.size w wr) (fun i _ => n - (intOf i).toNat)
  case atStart => exact ⟨0, Nat.zero_le _, rfl, rfl, Below.refl _ _⟩
  case round =>
    obtain ⟨k, hk, rfl, hall, hbel⟩ := hrel
    have HA := Lib.hid hall; clear hall
    by_cases hlt : k < n
    · obtain ⟨b, off, rfl, hb, hc⟩ := (hA.below hbel).cell (by omega)
      have hlx : k < xs.length := by rw [hA.len]; exact hlt
      have HC := Lib.hid (hc k hlt); clear hc
      go_wp2_with fail
      refine (l15One_any _ _ (nt xs k) _ HC.out).mono ?_; rintro e w1 ⟨rfl, hb1⟩
      go_wp2_with fail
      · rename_i hf
        go_ret
        exact ⟨ret_bool (by rw [racksOk, all_bad hlx (by simpa using hf)]; rfl), bel_tr hbel hb1⟩
      · rename_i hf
        go_roundw
        case rel => exact ⟨k + 1, by omega, by go_num, by rw [all_succ hlx, HA.out]; simpa using hf, bel_tr hbel hb1⟩
        case measure => simp [intOf]; omega
    · go_wp2
      go_ret
      exact ⟨ret_bool (by
        have := HA.out; rw [List.take_of_length_le (by rw [L.out]; omega)] at this
        rw [racksOk, this, L.out, Bool.true_and, Bool.eq_iff_iff]; simp; try omega), hbel⟩

theorem specValidRacks_any (A : Option Addr) (n c : Nat) (xs : List Rack) (w : World) (hA : RackS w A n xs) :
    Calls Tryd.prog 29 #[.slice A n c] w fun e w' => e = .returned (.bool (racksOk xs)) ∧ Below w.heap.size w w' := by
  go_enter Tryd.func29, Tryd.ntmps29
  go_wp2_with fail
  refine (l15Ok_any _ _ _ xs _ hA).mono ?_; rintro e w1 ⟨rfl, hb1⟩
  go_wp2_with fail
  go_ret
  exact ⟨rfl, hb1⟩

set_option maxHeartbeats 1000000 in
theorem validRack_any (r : Rack) (w : World) :
    Calls Tryd.prog 56 #[.agg #[.int .i64 r.Room, .int .i64 r.Holds, .int .i64 r.Since, .int .i64 r.Needs]] w fun e w' => e = .returned (.bool r.okB) ∧ Below w.heap.size w w' := by
  have E := Lib.hid (show r.okB = (inB r.Room 1 2000 && inB r.Holds 0 r.Room && inB r.Since 0 60 && inB r.Needs 0 1000 && (decide (0 < r.Holds) || ((r.Since == 0) && (r.Needs == 0)))) from rfl)
  rcases Bool.eq_false_or_eq_true (inB r.Room 1 2000) with g0 | g0
  · have G0 := Lib.hid g0; clear g0
    rcases Bool.eq_false_or_eq_true (inB r.Holds 0 r.Room) with g1 | g1
    · have G1 := Lib.hid g1; clear g1
      rcases Bool.eq_false_or_eq_true (inB r.Since 0 60) with g2 | g2
      · have G2 := Lib.hid g2; clear g2
        rcases Bool.eq_false_or_eq_true (inB r.Needs 0 1000) with g3 | g3
        · have G3 := Lib.hid g3; clear g3
          rcases Bool.eq_false_or_eq_true (decide (0 < r.Holds)) with q0 | q0
          · have X0 := Lib.hid q0
            go_enter Tryd.func56, Tryd.ntmps56
            go_wp2_with (first | (go_at_call 46; (with_reducible refine (asB (within_any _ _ _ _) G0.out).mono ?_); rintro e w' ⟨rfl, rfl⟩) | (go_at_call 46; (with_reducible refine (asB (within_any _ _ _ _) G1.out).mono ?_); rintro e w' ⟨rfl, rfl⟩) | (go_at_call 46; (with_reducible refine (asB (within_any _ _ _ _) G2.out).mono ?_); rintro e w' ⟨rfl, rfl⟩) | (go_at_call 46; (with_reducible refine (asB (within_any _ _ _ _) G3.out).mono ?_); rintro e w' ⟨rfl, rfl⟩))
            go_ret
            exact ⟨ret_bool (by rw [E.out, G0.out, G1.out, G2.out, G3.out, X0.out]; rfl), (by go_grown)⟩
          · rcases Bool.eq_false_or_eq_true (r.Since == 0) with q1 | q1
            · rcases Bool.eq_false_or_eq_true (r.Needs == 0) with q2 | q2
              · have X0 := Lib.hid q0
                have X1 := Lib.hid q1
                have X2 := Lib.hid q2
                go_enter Tryd.func56, Tryd.ntmps56
                go_wp2_with (first | (go_at_call 46; (with_reducible refine (asB (within_any _ _ _ _) G0.out).mono ?_); rintro e w' ⟨rfl, rfl⟩) | (go_at_call 46; (with_reducible refine (asB (within_any _ _ _ _) G1.out).mono ?_); rintro e w' ⟨rfl, rfl⟩) | (go_at_call 46; (with_reducible refine (asB (within_any _ _ _ _) G2.out).mono ?_); rintro e w' ⟨rfl, rfl⟩) | (go_at_call 46; (with_reducible refine (asB (within_any _ _ _ _) G3.out).mono ?_); rintro e w' ⟨rfl, rfl⟩))
                go_ret
                exact ⟨ret_bool (by rw [E.out, G0.out, G1.out, G2.out, G3.out, X0.out, X1.out, X2.out]; rfl), (by go_grown)⟩
              · have X0 := Lib.hid q0
                have X1 := Lib.hid q1
                have X2 := Lib.hid q2
                go_enter Tryd.func56, Tryd.ntmps56
                go_wp2_with (first | (go_at_call 46; (with_reducible refine (asB (within_any _ _ _ _) G0.out).mono ?_); rintro e w' ⟨rfl, rfl⟩) | (go_at_call 46; (with_reducible refine (asB (within_any _ _ _ _) G1.out).mono ?_); rintro e w' ⟨rfl, rfl⟩) | (go_at_call 46; (with_reducible refine (asB (within_any _ _ _ _) G2.out).mono ?_); rintro e w' ⟨rfl, rfl⟩) | (go_at_call 46; (with_reducible refine (asB (within_any _ _ _ _) G3.out).mono ?_); rintro e w' ⟨rfl, rfl⟩))
                go_ret
                exact ⟨ret_bool (by rw [E.out, G0.out, G1.out, G2.out, G3.out, X0.out, X1.out, X2.out]; rfl), (by go_grown)⟩
            · have X0 := Lib.hid q0
              have X1 := Lib.hid q1
              go_enter Tryd.func56, Tryd.ntmps56
              go_wp2_with (first | (go_at_call 46; (with_reducible refine (asB (within_any _ _ _ _) G0.out).mono ?_); rintro e w' ⟨rfl, rfl⟩) | (go_at_call 46; (with_reducible refine (asB (within_any _ _ _ _) G1.out).mono ?_); rintro e w' ⟨rfl, rfl⟩) | (go_at_call 46; (with_reducible refine (asB (within_any _ _ _ _) G2.out).mono ?_); rintro e w' ⟨rfl, rfl⟩) | (go_at_call 46; (with_reducible refine (asB (within_any _ _ _ _) G3.out).mono ?_); rintro e w' ⟨rfl, rfl⟩))
              go_ret
              exact ⟨ret_bool (by rw [E.out, G0.out, G1.out, G2.out, G3.out, X0.out, X1.out]; rfl), (by go_grown)⟩
        · have G3 := Lib.hid g3; clear g3
          go_enter Tryd.func56, Tryd.ntmps56
          go_wp2_with (first | (go_at_call 46; (with_reducible refine (asB (within_any _ _ _ _) G0.out).mono ?_); rintro e w' ⟨rfl, rfl⟩) | (go_at_call 46; (with_reducible refine (asB (within_any _ _ _ _) G1.out).mono ?_); rintro e w' ⟨rfl, rfl⟩) | (go_at_call 46; (with_reducible refine (asB (within_any _ _ _ _) G2.out).mono ?_); rintro e w' ⟨rfl, rfl⟩) | (go_at_call 46; (with_reducible refine (asB (within_any _ _ _ _) G3.out).mono ?_); rintro e w' ⟨rfl, rfl⟩))
          go_ret
          exact ⟨ret_bool (by rw [E.out, G3.out]; simp), (by go_grown)⟩
      · have G2 := Lib.hid g2; clear g2
        go_enter Tryd.func56, Tryd.ntmps56
        go_wp2_with (first | (go_at_call 46; (with_reducible refine (asB (within_any _ _ _ _) G0.out).mono ?_); rintro e w' ⟨rfl, rfl⟩) | (go_at_call 46; (with_reducible refine (asB (within_any _ _ _ _) G1.out).mono ?_); rintro e w' ⟨rfl, rfl⟩) | (go_at_call 46; (with_reducible refine (asB (within_any _ _ _ _) G2.out).mono ?_); rintro e w' ⟨rfl, rfl⟩))
        go_ret
        exact ⟨ret_bool (by rw [E.out, G2.out]; simp), (by go_grown)⟩
    · have G1 := Lib.hid g1; clear g1
      go_enter Tryd.func56, Tryd.ntmps56
      go_wp2_with (first | (go_at_call 46; (with_reducible refine (asB (within_any _ _ _ _) G0.out).mono ?_); rintro e w' ⟨rfl, rfl⟩) | (go_at_call 46; (with_reducible refine (asB (within_any _ _ _ _) G1.out).mono ?_); rintro e w' ⟨rfl, rfl⟩))
      go_ret
      exact ⟨ret_bool (by rw [E.out, G1.out]; simp), (by go_grown)⟩
  · have G0 := Lib.hid g0; clear g0
    go_enter Tryd.func56, Tryd.ntmps56
    go_wp2_with (first | (go_at_call 46; (with_reducible refine (asB (within_any _ _ _ _) G0.out).mono ?_); rintro e w' ⟨rfl, rfl⟩))
    go_ret
    exact ⟨ret_bool (by rw [E.out, G0.out]; simp), (by go_grown)⟩

theorem badRack_any (r : Rack) (w : World) :
    Calls Tryd.prog 61 #[.agg #[.int .i64 r.Room, .int .i64 r.Holds, .int .i64 r.Since, .int .i64 r.Needs]] w fun e w' => e = .returned (.bool (!r.okB)) ∧ Below w.heap.size w w' := by
  go_enter Tryd.func61, Tryd.ntmps61
  go_wp2_with fail
  refine (validRack_any _ _).mono ?_; rintro e w1 ⟨rfl, hb1⟩
  go_wp2_with fail
  go_ret
  exact ⟨ret_bool (by simp), bel_tr (by go_grown) hb1⟩

def IsIdxB (P : Int → Prop) (w : World) (e : Ending) (w' : World) : Prop := ∃ r : Int, e = .returned (.int .i64 r) ∧ P r ∧ Below w.heap.size w w'
theorem indexRack_any (A : Option Addr) (n c : Nat) (xs : List Rack) (w : World) (hA : RackS w A n xs) :
    Calls Tryd.prog 72 #[.slice A n c, .func (.func 61) #[] #[]] w (IsIdxB (fun r => decide (0 ≤ r) = !xs.all Rack.okB) w) := by
  have hn := hA.bound
  have L := Lib.hid hA.len
  go_enter Tryd.func72, Tryd.ntmps72
  go_wp2
  go_loopw [8] (fun i wr => ∃ k : Nat, k ≤ n ∧ i = .int .i64 k ∧ (xs.take k).all Rack.okB = true ∧ Below w.heap.size w wr) (fun i _ => n - (intOf i).toNat)
  case atStart => exact ⟨0, Nat.zero_le _, rfl, rfl, Below.refl _ _⟩
  case round =>
    obtain ⟨k, hk, rfl, hall, hbel⟩ := hrel
    have HA := Lib.hid hall; clear hall
    by_cases hlt : k < n
    · obtain ⟨b, off, rfl, hb, hc⟩ := (hA.below hbel).cell (by omega)
      have hlx : k < xs.length := by rw [hA.len]; exact hlt
      obtain ⟨hq0, hq1, hq2, hq3⟩ := hc k hlt
      clear hc
      go_wp2_with fail
      refine (badRack_any (nt xs k) _).mono ?_; rintro e w1 ⟨rfl, hb1⟩
      go_wp2_with fail
      · rename_i hf
        go_ret
        exact ⟨_, rfl, by rw [all_bad hlx (by simpa using hf)]; simp, bel_tr hbel hb1⟩
      · rename_i hf
        go_roundw
        case rel => exact ⟨k + 1, by omega, by go_num, by rw [all_succ hlx, HA.out]; simpa using hf, bel_tr hbel hb1⟩
        case measure => simp [intOf]; omega
    · go_wp2
      go_ret
      exact ⟨_, rfl, by
        have := HA.out; rw [List.take_of_length_le (by rw [L.out]; omega)] at this
        rw [this]; rfl, hbel⟩
theorem containsRack_any (A : Option Addr) (n c : Nat) (xs : List Rack) (w : World) (hA : RackS w A n xs) :
    Calls Tryd.prog 60 #[.slice A n c, .func (.func 61) #[] #[]] w
      fun e w' => e = .returned (.bool (!xs.all Rack.okB)) ∧ Below w.heap.size w w' := by
  go_enter Tryd.func60, Tryd.ntmps60
  go_wp2_with fail
  refine (indexRack_any _ _ _ xs _ hA).mono ?_; rintro e w1 ⟨r, rfl, hr, hb1⟩
  go_wp2_with fail
  go_ret
  exact ⟨ret_bool (by rw [← hr]), hb1⟩

theorem implValidRacks_any (A : Option Addr) (n c : Nat) (xs : List Rack) (w : World) (hA : RackS w A n xs) :
    Calls Tryd.prog 28 #[.slice A n c] w fun e w' => e = .returned (.bool (racksOk xs)) ∧ Below w.heap.size w w' := by
  have E := Lib.hid (show racksOk xs = (xs.all Rack.okB && decide (n ≤ 20)) by rw [racksOk, hA.len])
  by_cases h : n ≤ 20
  · go_enter Tryd.func28, Tryd.ntmps28
    go_wp2_with fail
    refine (containsRack_any _ _ _ xs _ hA).mono ?_; rintro e w1 ⟨rfl, hb1⟩
    go_wp2_with fail
    go_ret
    exact ⟨ret_bool (by rw [E.out]; simp [h]), hb1⟩
  · go_enter Tryd.func28, Tryd.ntmps28
    go_wp2_with fail
    go_ret
    exact ⟨ret_bool (by rw [E.out]; simp [h]), Below.refl _ _⟩
end Go.Proofs.YtoghgbbepjpelaaDoor
