/- The contracts of the functions over batches: l18Ok, ValidBatches. -/
import Derived.Test.YtmapjepdcbpalaaGreatDoorRBatch
import Derived.Test.YtmapjepdcbpalaaGreatDoorSm
import Derived.Test.YtmapjepdcbpalaaGreatDoorTw
namespace Go.Proofs.YtmapjepdcbpalaaGreatDoor
open Go.RowKit
set_option linter.unusedVariables false

theorem all_succ {α : Type} [Inhabited α] {xs : List α} {p : α → Bool} {k : Nat} (h : k < xs.length) : (xs.take (k + 1)).all p = ((xs.take k).all p && p (nt xs k)) := by
  rw [take_snoc_nt h]; simp
theorem all_bad {α : Type} [Inhabited α] {xs : List α} {p : α → Bool} {k : Nat} (h : k < xs.length) (hk : p (nt xs k) = false) : xs.all p = false := by
  rw [List.all_eq_false]
  exact ⟨nt xs k, nt_mem h, by rw [hk]; simp⟩

def Batch.okB (r : Batch) : Bool := inB r.Clay 1 20 && (inB r.Mould 1 20 && inB r.Chamber 1 20)
def batchesOk (xs : List Batch) : Bool := xs.all Batch.okB && decide (xs.length ≤ 40)

theorem l18Number_any (n : Int) (w : World) :
    Calls Tryz.prog 73 #[.int .i64 n] w fun e w' => e = .returned (.bool (inB n 1 20)) ∧ w = w' := by
  go_enter Tryz.func73, Tryz.ntmps73
  go_wp2_with fail
  refine (in_any _ _ _ _).mono ?_; rintro e w' ⟨rfl, rfl⟩
  go_wp2_with fail
  go_ret
  exact ⟨rfl, rfl⟩

set_option maxHeartbeats 2000000 in
theorem l18Ok_any (A : Option Addr) (n c : Nat) (xs : List Batch) (w : World) (hA : BatchS w A n xs) :
    Calls Tryz.prog 51 #[.slice A n c] w fun e w' => e = .returned (.bool (batchesOk xs)) ∧ Below w.heap.size w w' := by
  have hn := hA.bound
  have L := Lib.hid hA.len
  go_enter Tryz.func51, Tryz.ntmps51
  go_wp2
  go_loopw [3] (fun i wr => ∃ k : Nat, k ≤ n ∧ i = .int .i64 k ∧ (xs.take k).all Batch.okB = true ∧ Below w.heap.size w wr) (fun i _ => n - (intOf i).toNat)
  case atStart => exact ⟨0, Nat.zero_le _, rfl, rfl, Below.refl _ _⟩
  case round =>
    obtain ⟨k, hk, rfl, hall, hbel⟩ := hrel
    have HA := Lib.hid hall; clear hall
    by_cases hlt : k < n
    · obtain ⟨b, off, rfl, hb, hc⟩ := (hA.below hbel).cell (by omega)
      have hlx : k < xs.length := by rw [hA.len]; exact hlt
      obtain ⟨hq0, hq1, hq2, hq3⟩ := hc k hlt
      clear hc
      have E := Lib.hid (show (nt xs k).okB = (inB (nt xs k).Clay 1 20 && (inB (nt xs k).Mould 1 20 && inB (nt xs k).Chamber 1 20)) from rfl)
      rcases Bool.eq_false_or_eq_true (inB (nt xs k).Clay 1 20) with g0 | g0
      · have G0 := Lib.hid g0; clear g0
        rcases Bool.eq_false_or_eq_true (inB (nt xs k).Mould 1 20) with g1 | g1
        · have G1 := Lib.hid g1; clear g1
          rcases Bool.eq_false_or_eq_true (inB (nt xs k).Chamber 1 20) with g2 | g2
          · have G2 := Lib.hid g2; clear g2
            go_wp2_with (first | (go_at_call 73; (with_reducible refine (asB (l18Number_any _ _) G0.out).mono ?_); rintro e w' ⟨rfl, rfl⟩) | (go_at_call 73; (with_reducible refine (asB (l18Number_any _ _) G1.out).mono ?_); rintro e w' ⟨rfl, rfl⟩) | (go_at_call 73; (with_reducible refine (asB (l18Number_any _ _) G2.out).mono ?_); rintro e w' ⟨rfl, rfl⟩))
            go_roundw
            case rel => exact ⟨k + 1, by omega, by go_num, by rw [all_succ hlx, HA.out, E.out, G0.out, G1.out, G2.out]; rfl, hbel⟩
            case measure => simp [intOf]; omega
          · have G2 := Lib.hid g2; clear g2
            go_wp2_with (first | (go_at_call 73; (with_reducible refine (asB (l18Number_any _ _) G0.out).mono ?_); rintro e w' ⟨rfl, rfl⟩) | (go_at_call 73; (with_reducible refine (asB (l18Number_any _ _) G1.out).mono ?_); rintro e w' ⟨rfl, rfl⟩) | (go_at_call 73; (with_reducible refine (asB (l18Number_any _ _) G2.out).mono ?_); rintro e w' ⟨rfl, rfl⟩))
            go_ret
            exact ⟨ret_bool (by rw [batchesOk, all_bad hlx (by rw [E.out, G2.out]; simp)]; rfl), hbel⟩
        · have G1 := Lib.hid g1; clear g1
          go_wp2_with (first | (go_at_call 73; (with_reducible refine (asB (l18Number_any _ _) G0.out).mono ?_); rintro e w' ⟨rfl, rfl⟩) | (go_at_call 73; (with_reducible refine (asB (l18Number_any _ _) G1.out).mono ?_); rintro e w' ⟨rfl, rfl⟩))
          go_ret
          exact ⟨ret_bool (by rw [batchesOk, all_bad hlx (by rw [E.out, G1.out]; simp)]; rfl), hbel⟩
      · have G0 := Lib.hid g0; clear g0
        go_wp2_with (first | (go_at_call 73; (with_reducible refine (asB (l18Number_any _ _) G0.out).mono ?_); rintro e w' ⟨rfl, rfl⟩))
        go_ret
        exact ⟨ret_bool (by rw [batchesOk, all_bad hlx (by rw [E.out, G0.out]; simp)]; rfl), hbel⟩
    · go_wp2
      go_ret
      exact ⟨ret_bool (by
        have := HA.out; rw [List.take_of_length_le (by rw [L.out]; omega)] at this
        rw [batchesOk, this, L.out, Bool.true_and, Bool.eq_iff_iff]; simp; try omega), hbel⟩


set_option maxHeartbeats 1000000 in
theorem badBatch_any (r : Batch) (w : World) :
    Calls Tryz.prog 35 #[.agg #[.int .i64 r.Clay, .int .i64 r.Mould, .int .i64 r.Chamber, .bool r.Bad]] w fun e w' => e = .returned (.bool (!r.okB)) ∧ Below w.heap.size w w' := by
  have E := Lib.hid (show r.okB = (inB r.Clay 1 20 && (inB r.Mould 1 20 && inB r.Chamber 1 20)) from rfl)
  rcases Bool.eq_false_or_eq_true (inB r.Clay 1 20) with g0 | g0
  · have G0 := Lib.hid g0; clear g0
    rcases Bool.eq_false_or_eq_true (inB r.Mould 1 20) with g1 | g1
    · have G1 := Lib.hid g1; clear g1
      rcases Bool.eq_false_or_eq_true (inB r.Chamber 1 20) with g2 | g2
      · have G2 := Lib.hid g2; clear g2
        go_enter Tryz.func35, Tryz.ntmps35
        go_wp2_with (first | (go_at_call 36; (with_reducible refine (asB (within_any _ _ _ _) G0.out).mono ?_); rintro e w' ⟨rfl, rfl⟩) | (go_at_call 36; (with_reducible refine (asB (within_any _ _ _ _) G1.out).mono ?_); rintro e w' ⟨rfl, rfl⟩) | (go_at_call 36; (with_reducible refine (asB (within_any _ _ _ _) G2.out).mono ?_); rintro e w' ⟨rfl, rfl⟩))
        go_ret
        exact ⟨ret_bool (by rw [E.out, G0.out, G1.out, G2.out]; rfl), by go_grown⟩
      · have G2 := Lib.hid g2; clear g2
        go_enter Tryz.func35, Tryz.ntmps35
        go_wp2_with (first | (go_at_call 36; (with_reducible refine (asB (within_any _ _ _ _) G0.out).mono ?_); rintro e w' ⟨rfl, rfl⟩) | (go_at_call 36; (with_reducible refine (asB (within_any _ _ _ _) G1.out).mono ?_); rintro e w' ⟨rfl, rfl⟩) | (go_at_call 36; (with_reducible refine (asB (within_any _ _ _ _) G2.out).mono ?_); rintro e w' ⟨rfl, rfl⟩))
        go_ret
        exact ⟨ret_bool (by rw [E.out, G2.out]; simp), by go_grown⟩
    · have G1 := Lib.hid g1; clear g1
      go_enter Tryz.func35, Tryz.ntmps35
      go_wp2_with (first | (go_at_call 36; (with_reducible refine (asB (within_any _ _ _ _) G0.out).mono ?_); rintro e w' ⟨rfl, rfl⟩) | (go_at_call 36; (with_reducible refine (asB (within_any _ _ _ _) G1.out).mono ?_); rintro e w' ⟨rfl, rfl⟩))
      go_ret
      exact ⟨ret_bool (by rw [E.out, G1.out]; simp), by go_grown⟩
  · have G0 := Lib.hid g0; clear g0
    go_enter Tryz.func35, Tryz.ntmps35
    go_wp2_with (first | (go_at_call 36; (with_reducible refine (asB (within_any _ _ _ _) G0.out).mono ?_); rintro e w' ⟨rfl, rfl⟩))
    go_ret
    exact ⟨ret_bool (by rw [E.out, G0.out]; simp), by go_grown⟩

def IsIdxB (P : Int → Prop) (w : World) (e : Ending) (w' : World) : Prop := ∃ r : Int, e = .returned (.int .i64 r) ∧ P r ∧ Below w.heap.size w w'
theorem indexBatch_any (A : Option Addr) (n c : Nat) (xs : List Batch) (w : World) (hA : BatchS w A n xs) :
    Calls Tryz.prog 57 #[.slice A n c, .func (.func 35) #[] #[]] w (IsIdxB (fun r => decide (0 ≤ r) = xs.any (fun r => !r.okB)) w) := by
  have hn := hA.bound
  have L := Lib.hid hA.len
  go_enter Tryz.func57, Tryz.ntmps57
  go_wp2
  go_loopw [8] (fun i wr => ∃ k : Nat, k ≤ n ∧ i = .int .i64 k ∧ (xs.take k).any (fun r => !r.okB) = false ∧ Below w.heap.size w wr) (fun i _ => n - (intOf i).toNat)
  case atStart => exact ⟨0, Nat.zero_le _, rfl, rfl, Below.refl _ _⟩
  case round =>
    obtain ⟨k, hk, rfl, hall, hbel⟩ := hrel
    have HA := Lib.hid hall; clear hall
    by_cases hlt : k < n
    · obtain ⟨b, off, rfl, hb, hc⟩ := (hA.below hbel).cell (by omega)
      have hlx : k < xs.length := by rw [hA.len]; exact hlt
      obtain ⟨hq0, hq1, hq2, hq3⟩ := hc k hlt
      clear hc
      go_wp2_with fail
      refine (badBatch_any (nt xs k) _).mono ?_; rintro e w1 ⟨rfl, hb1⟩
      go_wp2_with fail
      · rename_i hf
        go_ret
        exact ⟨_, rfl, by
          have h1 : xs.any (fun r => !r.okB) = true := by rw [List.any_eq_true]; exact ⟨nt xs k, nt_mem hlx, by simpa using hf⟩
          rw [h1]; simp, bel_tr hbel hb1⟩
      · rename_i hf
        go_roundw
        case rel => exact ⟨k + 1, by omega, by go_num, by rw [take_snoc_nt hlx, List.any_append, HA.out]; simpa using hf, bel_tr hbel hb1⟩
        case measure => simp [intOf]; omega
    · go_wp2
      go_ret
      exact ⟨_, rfl, by
        have := HA.out; rw [List.take_of_length_le (by rw [L.out]; omega)] at this
        rw [this]; rfl, hbel⟩
theorem containsBatch_any (A : Option Addr) (n c : Nat) (xs : List Batch) (w : World) (hA : BatchS w A n xs) :
    Calls Tryz.prog 34 #[.slice A n c, .func (.func 35) #[] #[]] w
      fun e w' => e = .returned (.bool (xs.any (fun r => !r.okB))) ∧ Below w.heap.size w w' := by
  go_enter Tryz.func34, Tryz.ntmps34
  go_wp2_with fail
  refine (indexBatch_any _ _ _ xs _ hA).mono ?_; rintro e w1 ⟨r, rfl, hr, hb1⟩
  go_wp2_with fail
  go_ret
  exact ⟨ret_bool (by rw [← hr]), hb1⟩

theorem any_not {xs : List Batch} : xs.any (fun r => !r.okB) = !xs.all Batch.okB := by
  induction xs with
  | nil => rfl
  | cons a l ih => simp only [List.any_cons, List.all_cons, ih]; simp
theorem implValidBatches_any (A : Option Addr) (n c : Nat) (xs : List Batch) (w : World) (hA : BatchS w A n xs) :
    Calls Tryz.prog 16 #[.slice A n c] w fun e w' => e = .returned (.bool (batchesOk xs)) ∧ Below w.heap.size w w' := by
  have E := Lib.hid (show batchesOk xs = (xs.all Batch.okB && decide (n ≤ 40)) by rw [batchesOk, hA.len])
  by_cases h : n ≤ 40
  · go_enter Tryz.func16, Tryz.ntmps16
    go_wp2_with fail
    refine (containsBatch_any _ _ _ xs _ hA).mono ?_; rintro e w1 ⟨rfl, hb1⟩
    go_wp2_with fail
    go_ret
    exact ⟨ret_bool (by rw [E.out, any_not]; simp [h]), hb1⟩
  · go_enter Tryz.func16, Tryz.ntmps16
    go_wp2_with fail
    go_ret
    exact ⟨ret_bool (by rw [E.out]; simp [h]), Below.refl _ _⟩
end Go.Proofs.YtmapjepdcbpalaaGreatDoor
