/- The contracts of the functions over tested bricks: ValidTested, CountWeak, WeakestTested. -/
import Derived.Test.YtnibggkjgpgljaaRTested
import Derived.Test.YtnibggkjgpgljaaSm
import Derived.Test.YtnibggkjgpgljaaTw
namespace Go.Proofs.Ytnibggkjgpgljaa
open Go.RowKit
set_option linter.unusedVariables false

theorem all_succ {α : Type} [Inhabited α] {xs : List α} {p : α → Bool} {k : Nat} (h : k < xs.length) : (xs.take (k + 1)).all p = ((xs.take k).all p && p (nt xs k)) := by
  rw [take_snoc_nt h]; simp
theorem all_bad {α : Type} [Inhabited α] {xs : List α} {p : α → Bool} {k : Nat} (h : k < xs.length) (hk : p (nt xs k) = false) : xs.all p = false := by
  rw [List.all_eq_false]
  exact ⟨nt xs k, nt_mem h, by rw [hk]; simp⟩

def Tested.okB (t : Tested) : Bool := inB t.Strength 0 100000 && inB t.Water 0 1000
def testedOk (xs : List Tested) : Bool := xs.all Tested.okB && decide (xs.length ≤ 20)

theorem l19One_any (b o : Nat) (t : Tested) (w : World) (ht : t.lies w b o) :
    Calls Try.prog 82 #[.pointer (some ⟨b, o, none⟩)] w fun e w' => e = .returned (.bool t.okB) ∧ w = w' := by
  obtain ⟨h0, h1⟩ := ht
  have E := Lib.hid (show t.okB = (inB t.Strength 0 100000 && inB t.Water 0 1000) from rfl)
  rcases Bool.eq_false_or_eq_true (inB t.Strength 0 100000) with g | g
  · have G := Lib.hid g; clear g
    go_enter Try.func82, Try.ntmps82
    go_wp2_with fail
    refine (asB (in_any _ _ _ _) G.out).mono ?_; rintro e w' ⟨rfl, rfl⟩
    go_wp2_with fail
    refine (in_any _ _ _ _).mono ?_; rintro e w' ⟨rfl, rfl⟩
    go_wp2_with fail
    go_ret
    exact ⟨ret_bool (by rw [E.out, G.out]; simp), rfl⟩
  · have G := Lib.hid g; clear g
    go_enter Try.func82, Try.ntmps82
    go_wp2_with fail
    refine (asB (in_any _ _ _ _) G.out).mono ?_; rintro e w' ⟨rfl, rfl⟩
    go_wp2_with fail
    go_ret
    exact ⟨ret_bool (by rw [E.out, G.out]; simp), rfl⟩

theorem l19Ok_any (A : Option Addr) (n c : Nat) (xs : List Tested) (w : World) (hA : TestedS w A n xs) :
    Calls Try.prog 49 #[.slice A n c] w fun e w' => e = .returned (.bool (testedOk xs)) ∧ w = w' := by
  have hn := hA.bound
  have L := Lib.hid hA.len
  go_enter Try.func49, Try.ntmps49
  go_wp2
  go_loop [3] (fun i => ∃ k : Nat, k ≤ n ∧ i = .int .i64 k ∧ (xs.take k).all Tested.okB = true) (fun i => n - (intOf i).toNat)
  case atStart => exact ⟨0, Nat.zero_le _, rfl, rfl⟩
  case round =>
    obtain ⟨k, hk, rfl, hall⟩ := hrel
    have HA := Lib.hid hall; clear hall
    by_cases hlt : k < n
    · obtain ⟨b, off, rfl, hb, hc⟩ := hA.cell (by omega)
      have hlx : k < xs.length := by rw [hA.len]; exact hlt
      have HC := Lib.hid (hc k hlt); clear hc
      go_wp2_with fail
      refine (l19One_any _ _ (nt xs k) _ HC.out).mono ?_; rintro e w' ⟨rfl, rfl⟩
      go_wp2_with fail
      · rename_i hf
        go_ret
        exact ⟨ret_bool (by rw [testedOk, all_bad hlx (by simpa using hf)]; rfl), rfl⟩
      · rename_i hf
        go_round
        case rel => exact ⟨k + 1, by omega, by go_num, by rw [all_succ hlx, HA.out]; simpa using hf⟩
        case measure => simp [intOf]; omega
    · go_wp2
      go_ret
      exact ⟨ret_bool (by
        have := HA.out; rw [List.take_of_length_le (by rw [L.out]; omega)] at this
        rw [testedOk, this, L.out, Bool.true_and, Bool.eq_iff_iff]; simp; try omega), rfl⟩

theorem specValidTested_any (A : Option Addr) (n c : Nat) (xs : List Tested) (w : World) (hA : TestedS w A n xs) :
    Calls Try.prog 18 #[.slice A n c] w fun e w' => e = .returned (.bool (testedOk xs)) ∧ Below w.heap.size w w' := by
  go_enter Try.func18, Try.ntmps18
  go_wp2_with fail
  refine (l19Ok_any _ _ _ xs _ hA).mono ?_; rintro e w' ⟨rfl, rfl⟩
  go_wp2_with fail
  go_ret
  exact ⟨rfl, Below.refl _ _⟩

theorem badTested_any (t : Tested) (w : World) :
    Calls Try.prog 51 #[.agg #[.int .i64 t.Strength, .int .i64 t.Water]] w fun e w' => e = .returned (.bool (!t.okB)) ∧ Below w.heap.size w w' := by
  have E := Lib.hid (show t.okB = (inB t.Strength 0 100000 && inB t.Water 0 1000) from rfl)
  rcases Bool.eq_false_or_eq_true (inB t.Strength 0 100000) with g | g
  · have G := Lib.hid g; clear g
    go_enter Try.func51, Try.ntmps51
    go_wp2_with fail
    refine (asB (within_any _ _ _ _) G.out).mono ?_; rintro e w' ⟨rfl, rfl⟩
    go_wp2_with fail
    refine (within_any _ _ _ _).mono ?_; rintro e w' ⟨rfl, rfl⟩
    go_wp2_with fail
    go_ret
    exact ⟨ret_bool (by rw [E.out, G.out]; simp), by go_grown⟩
  · have G := Lib.hid g; clear g
    go_enter Try.func51, Try.ntmps51
    go_wp2_with fail
    refine (asB (within_any _ _ _ _) G.out).mono ?_; rintro e w' ⟨rfl, rfl⟩
    go_wp2_with fail
    go_ret
    exact ⟨ret_bool (by rw [E.out, G.out]; simp), by go_grown⟩

def IsIdxB (P : Int → Prop) (w : World) (e : Ending) (w' : World) : Prop := ∃ r : Int, e = .returned (.int .i64 r) ∧ P r ∧ Below w.heap.size w w'
theorem indexTested_any (A : Option Addr) (n c : Nat) (xs : List Tested) (w : World) (hA : TestedS w A n xs) :
    Calls Try.prog 83 #[.slice A n c, .func (.func 51) #[] #[]] w (IsIdxB (fun r => decide (0 ≤ r) = !xs.all Tested.okB) w) := by
  have hn := hA.bound
  have L := Lib.hid hA.len
  go_enter Try.func83, Try.ntmps83
  go_wp2
  go_loopw [8] (fun i wr => ∃ k : Nat, k ≤ n ∧ i = .int .i64 k ∧ (xs.take k).all Tested.okB = true ∧ Below w.heap.size w wr) (fun i _ => n - (intOf i).toNat)
  case atStart => exact ⟨0, Nat.zero_le _, rfl, rfl, Below.refl _ _⟩
  case round =>
    obtain ⟨k, hk, rfl, hall, hbel⟩ := hrel
    have HA := Lib.hid hall; clear hall
    by_cases hlt : k < n
    · obtain ⟨b, off, rfl, hb, hc⟩ := (hA.below hbel).cell (by omega)
      have hlx : k < xs.length := by rw [hA.len]; exact hlt
      obtain ⟨hq0, hq1⟩ := hc k hlt
      clear hc
      go_wp2_with fail
      refine (badTested_any (nt xs k) _).mono ?_; rintro e w1 ⟨rfl, hb1⟩
      go_wp2_with fail
      · rename_i hf
        go_ret
        exact ⟨_, rfl, by rw [all_bad hlx (by simpa using hf)]; simp, bel_tr hbel hb1⟩
      · rename_i hf
        go_roundw
        case rel => exact ⟨k + 1, by omega, by go_num, by rw [all_succ hlx, HA.out]; simpa using hf, bel_tr hbel hb1⟩
        case measure => simp [intOf]; omega
    · go_wp2
      go_ret
      exact ⟨_, rfl, by
        have := HA.out; rw [List.take_of_length_le (by rw [L.out]; omega)] at this
        rw [this]; rfl, hbel⟩
theorem containsTested_any (A : Option Addr) (n c : Nat) (xs : List Tested) (w : World) (hA : TestedS w A n xs) :
    Calls Try.prog 50 #[.slice A n c, .func (.func 51) #[] #[]] w
      fun e w' => e = .returned (.bool (!xs.all Tested.okB)) ∧ Below w.heap.size w w' := by
  go_enter Try.func50, Try.ntmps50
  go_wp2_with fail
  refine (indexTested_any _ _ _ xs _ hA).mono ?_; rintro e w1 ⟨r, rfl, hr, hb1⟩
  go_wp2_with fail
  go_ret
  exact ⟨ret_bool (by rw [← hr]), hb1⟩

theorem implValidTested_any (A : Option Addr) (n c : Nat) (xs : List Tested) (w : World) (hA : TestedS w A n xs) :
    Calls Try.prog 19 #[.slice A n c] w fun e w' => e = .returned (.bool (testedOk xs)) ∧ Below w.heap.size w w' := by
  have E := Lib.hid (show testedOk xs = (xs.all Tested.okB && decide (n ≤ 20)) by rw [testedOk, hA.len])
  by_cases h : n ≤ 20
  · go_enter Try.func19, Try.ntmps19
    go_wp2_with fail
    refine (containsTested_any _ _ _ xs _ hA).mono ?_; rintro e w1 ⟨rfl, hb1⟩
    go_wp2_with fail
    go_ret
    exact ⟨ret_bool (by rw [E.out]; simp [h]), hb1⟩
  · go_enter Try.func19, Try.ntmps19
    go_wp2_with fail
    go_ret
    exact ⟨ret_bool (by rw [E.out]; simp [h]), Below.refl _ _⟩

/-- How many of the first k are weaker than s. -/
def cntWeak (xs : List Tested) (s : Int) : Nat → Int
  | 0 => 0
  | k + 1 => cntWeak xs s k + (if (nt xs k).Strength < s then 1 else 0)
theorem cntWeak_yes {xs : List Tested} {s : Int} {k : Nat} (h : (nt xs k).Strength < s) : cntWeak xs s (k + 1) = cntWeak xs s k + 1 := by rw [cntWeak, if_pos h]
theorem cntWeak_no {xs : List Tested} {s : Int} {k : Nat} (h : ¬ (nt xs k).Strength < s) : cntWeak xs s (k + 1) = cntWeak xs s k := by rw [cntWeak, if_neg h, Int.add_zero]
theorem cntWeak_bound (xs : List Tested) (s : Int) : ∀ k : Nat, 0 ≤ cntWeak xs s k ∧ cntWeak xs s k ≤ k := by
  intro k
  induction k with
  | zero => simp [cntWeak]
  | succ k ih => rw [cntWeak]; split <;> omega
def weakF (xs : List Tested) (s : Int) : Int × Int := if testedOk xs = true then (if inB s 0 100000 = true then (cntWeak xs s xs.length, 0) else (0, 2)) else (0, 1)

set_option maxHeartbeats 1000000 in
theorem specCountWeak_any (A : Option Addr) (n c : Nat) (xs : List Tested) (s : Int) (w : World) (hA : TestedS w A n xs) :
    Calls Try.prog 20 #[.slice A n c, .int .i64 s] w (Two (weakF xs s) w) := by
  have hn := hA.bound
  rcases Bool.eq_false_or_eq_true (testedOk xs) with g | g
  · rcases Bool.eq_false_or_eq_true (inB s 0 100000) with g2 | g2
    · have E := Lib.hid (show weakF xs s = (cntWeak xs s n, 0) by rw [weakF, if_pos g, if_pos g2, hA.len])
      have G := Lib.hid g; clear g
      have G2 := Lib.hid g2; clear g2
      go_enter Try.func20, Try.ntmps20
      go_wp2_with fail
      refine (asB (l19Ok_any _ _ _ xs _ hA) G.out).mono ?_; rintro e w' ⟨rfl, rfl⟩
      go_wp2_with fail
      refine (asB (in_any _ _ _ _) G2.out).mono ?_; rintro e w' ⟨rfl, rfl⟩
      go_wp2
      go_loop [6, 7] (fun u i => ∃ k : Nat, k ≤ n ∧ i = .int .i64 k ∧ u = .int .i64 (cntWeak xs s k)) (fun _ i => n - (intOf i).toNat)
      case atStart => exact ⟨0, Nat.zero_le _, rfl, rfl⟩
      case round =>
        obtain ⟨k, hk, rfl, rfl⟩ := hrel
        have hcb := cntWeak_bound xs s k
        by_cases hlt : k < n
        · obtain ⟨b, off, rfl, hb, hc⟩ := hA.cell (by omega)
          obtain ⟨hq0, hq1⟩ := hc k hlt
          clear hc
          by_cases hq : (nt xs k).Strength < s
          · have S := Lib.hid (cntWeak_yes hq)
            go_wp2
            go_round
            case rel => exact ⟨k + 1, by omega, by go_num, by rw [S.out]⟩
            case measure => simp [intOf]; omega
          · have S := Lib.hid (cntWeak_no hq)
            go_wp2
            go_round
            case rel => exact ⟨k + 1, by omega, by go_num, by rw [S.out]⟩
            case measure => simp [intOf]; omega
        · obtain rfl : n = k := by omega
          go_wp2
          go_ret2
          exact Two.mk E.out (Below.refl _ _)
    · have E := Lib.hid (show weakF xs s = (0, 2) by rw [weakF, if_pos g, g2]; rfl)
      have G := Lib.hid g; clear g
      have G2 := Lib.hid g2; clear g2
      go_enter Try.func20, Try.ntmps20
      go_wp2_with fail
      refine (asB (l19Ok_any _ _ _ xs _ hA) G.out).mono ?_; rintro e w' ⟨rfl, rfl⟩
      go_wp2_with fail
      refine (asB (in_any _ _ _ _) G2.out).mono ?_; rintro e w' ⟨rfl, rfl⟩
      go_wp2_with fail
      go_ret2
      exact Two.mk E.out (Below.refl _ _)
  · have E := Lib.hid (show weakF xs s = (0, 1) by rw [weakF, g]; rfl)
    have G := Lib.hid g; clear g
    go_enter Try.func20, Try.ntmps20
    go_wp2_with fail
    refine (asB (l19Ok_any _ _ _ xs _ hA) G.out).mono ?_; rintro e w' ⟨rfl, rfl⟩
    go_wp2_with fail
    go_ret2
    exact Two.mk E.out (Below.refl _ _)

set_option maxHeartbeats 1000000 in
theorem implCountWeak_any (A : Option Addr) (n c : Nat) (xs : List Tested) (s : Int) (w : World) (hA : TestedS w A n xs) :
    Calls Try.prog 21 #[.slice A n c, .int .i64 s] w (Two (weakF xs s) w) := by
  have hn := hA.bound
  rcases Bool.eq_false_or_eq_true (testedOk xs) with g | g
  · rcases Bool.eq_false_or_eq_true (inB s 0 100000) with g2 | g2
    · have E := Lib.hid (show weakF xs s = (cntWeak xs s n, 0) by rw [weakF, if_pos g, if_pos g2, hA.len])
      have G := Lib.hid g; clear g
      have G2 := Lib.hid g2; clear g2
      go_enter Try.func21, Try.ntmps21
      go_wp2_with fail
      refine (asB (implValidTested_any _ _ _ xs _ hA) G.out).mono ?_; rintro e w1 ⟨rfl, hb1⟩
      go_wp2_with fail
      refine (asB (within_any _ _ _ _) G2.out).mono ?_; rintro e w' ⟨rfl, rfl⟩
      go_wp2
      go_loopw [6, 19] (fun u i wr => ∃ k : Nat, k ≤ n ∧ i = .int .i64 k ∧ u = .int .i64 (cntWeak xs s k) ∧ Below w.heap.size w wr) (fun _ i _ => n - (intOf i).toNat)
      case atStart => exact ⟨0, Nat.zero_le _, rfl, rfl, hb1⟩
      case round =>
        obtain ⟨k, hk, rfl, rfl, hbel⟩ := hrel
        have hcb := cntWeak_bound xs s k
        by_cases hlt : k < n
        · obtain ⟨b, off, rfl, hb, hc⟩ := (hA.below hbel).cell (by omega)
          obtain ⟨hq0, hq1⟩ := hc k hlt
          clear hc
          by_cases hq : (nt xs k).Strength < s
          · have S := Lib.hid (cntWeak_yes hq)
            go_wp2
            go_roundw
            case rel => exact ⟨k + 1, by omega, by go_num, by rw [S.out], bel_tr hbel (by go_grown)⟩
            case measure => simp [intOf]; omega
          · have S := Lib.hid (cntWeak_no hq)
            go_wp2
            go_roundw
            case rel => exact ⟨k + 1, by omega, by go_num, by rw [S.out], bel_tr hbel (by go_grown)⟩
            case measure => simp [intOf]; omega
        · obtain rfl : n = k := by omega
          go_wp2
          go_ret2
          exact Two.mk E.out hbel
    · have E := Lib.hid (show weakF xs s = (0, 2) by rw [weakF, if_pos g, g2]; rfl)
      have G := Lib.hid g; clear g
      have G2 := Lib.hid g2; clear g2
      go_enter Try.func21, Try.ntmps21
      go_wp2_with fail
      refine (asB (implValidTested_any _ _ _ xs _ hA) G.out).mono ?_; rintro e w1 ⟨rfl, hb1⟩
      go_wp2_with fail
      refine (asB (within_any _ _ _ _) G2.out).mono ?_; rintro e w' ⟨rfl, rfl⟩
      go_wp2_with fail
      go_ret2
      exact Two.mk E.out hb1
  · have E := Lib.hid (show weakF xs s = (0, 1) by rw [weakF, g]; rfl)
    have G := Lib.hid g; clear g
    go_enter Try.func21, Try.ntmps21
    go_wp2_with fail
    refine (asB (implValidTested_any _ _ _ xs _ hA) G.out).mono ?_; rintro e w1 ⟨rfl, hb1⟩
    go_wp2_with fail
    go_ret2
    exact Two.mk E.out hb1
end Go.Proofs.Ytnibggkjgpgljaa
