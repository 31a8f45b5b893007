/- The contracts of MeanStrength, the reference's and the program's. -/
import Derived.Test.YtnibggkjgpgljaaT2
import Derived.Test.YtnibggkjgpgljaaGc
namespace Go.Proofs.Ytnibggkjgpgljaa
open Go.RowKit
set_option linter.unusedVariables false

/-- The sum of the first k strengths. -/
def psumT (xs : List Tested) : Nat → Nat
  | 0 => 0
  | k + 1 => psumT xs k + (nt xs k).Strength.toNat
theorem testedOk_at {xs : List Tested} (h : testedOk xs = true) {k : Nat} (hk : k < xs.length) : 0 ≤ (nt xs k).Strength ∧ (nt xs k).Strength ≤ 100000 := by
  simp only [testedOk, Bool.and_eq_true, List.all_eq_true] at h
  have h1 := h.1 _ (nt_mem hk)
  simp only [Tested.okB, Bool.and_eq_true, inB_true] at h1
  exact h1.1
theorem testedOk_len {xs : List Tested} (h : testedOk xs = true) : xs.length ≤ 20 := by
  simp only [testedOk, Bool.and_eq_true, decide_eq_true_eq] at h
  exact h.2
theorem psumT_bound {xs : List Tested} (h : testedOk xs = true) : ∀ k : Nat, k ≤ xs.length → psumT xs k ≤ 100000 * k := by
  intro k
  induction k with
  | zero => intro _; simp [psumT]
  | succ k ih =>
    intro hk
    have h1 := ih (by omega)
    have h2 := testedOk_at h (k := k) (by omega)
    rw [psumT]
    omega
theorem psumT_next {xs : List Tested} (h : testedOk xs = true) {k : Nat} (hk : k < xs.length) : ((psumT xs (k + 1) : Nat) : Int) = psumT xs k + (nt xs k).Strength := by
  have h2 := testedOk_at h hk
  rw [psumT]
  omega

theorem l19Sum_any (A : Option Addr) (n c : Nat) (xs : List Tested) (w : World) (hA : TestedS w A n xs) (hok : testedOk xs = true) :
    Calls Try.prog 66 #[.slice A n c] w fun e w' => e = .returned (.int .i64 ((psumT xs n : Nat) : Int)) ∧ w = w' := by
  have hn := hA.bound
  have L := Lib.hid hA.len
  have OK := Lib.hid hok; clear hok
  have h20 := testedOk_len OK.out
  rw [hA.len] at h20
  go_enter Try.func66, Try.ntmps66
  go_wp2
  go_loop [3, 4] (fun s i => ∃ k : Nat, k ≤ n ∧ i = .int .i64 k ∧ s = .int .i64 ((psumT xs k : Nat) : Int)) (fun _ i => n - (intOf i).toNat)
  case atStart => exact ⟨0, Nat.zero_le _, rfl, rfl⟩
  case round =>
    obtain ⟨k, hk, rfl, rfl⟩ := hrel
    by_cases hlt : k < n
    · obtain ⟨b, off, rfl, hb, hc⟩ := hA.cell (by omega)
      obtain ⟨hq0, hq1⟩ := hc k hlt
      clear hc
      have hkl : k < xs.length := by rw [L.out]; exact hlt
      have hs := testedOk_at OK.out hkl
      have hp := psumT_bound OK.out k (by omega)
      have S := Lib.hid (psumT_next OK.out hkl)
      go_wp2
      go_round
      case rel => exact ⟨k + 1, by omega, by go_num, by rw [S.out]⟩
      case measure => simp [intOf]; omega
    · obtain rfl : k = n := by omega
      go_wp2
      go_ret
      exact ⟨rfl, rfl⟩

theorem strengths_any (A : Option Addr) (n c : Nat) (xs : List Tested) (w : World) (hA : TestedS w A n xs) (hok : testedOk xs = true) :
    Calls Try.prog 68 #[.slice A n c] w fun e w' => e = .returned (.int .i64 ((psumT xs n : Nat) : Int)) ∧ Below w.heap.size w w' := by
  have hn := hA.bound
  have L := Lib.hid hA.len
  have OK := Lib.hid hok; clear hok
  have h20 := testedOk_len OK.out
  rw [hA.len] at h20
  go_enter Try.func68, Try.ntmps68
  go_wp2
  go_loopw [3, 8] (fun s i wr => ∃ k : Nat, k ≤ n ∧ i = .int .i64 k ∧ s = .int .i64 ((psumT xs k : Nat) : Int) ∧ Below w.heap.size w wr) (fun _ i _ => n - (intOf i).toNat)
  case atStart => exact ⟨0, Nat.zero_le _, rfl, rfl, Below.refl _ _⟩
  case round =>
    obtain ⟨k, hk, rfl, rfl, hbel⟩ := hrel
    by_cases hlt : k < n
    · obtain ⟨b, off, rfl, hb, hc⟩ := (hA.below hbel).cell (by omega)
      obtain ⟨hq0, hq1⟩ := hc k hlt
      clear hc
      have hkl : k < xs.length := by rw [L.out]; exact hlt
      have hs := testedOk_at OK.out hkl
      have hp := psumT_bound OK.out k (by omega)
      have S := Lib.hid (psumT_next OK.out hkl)
      go_wp2
      go_roundw
      case rel => exact ⟨k + 1, by omega, by go_num, by rw [S.out], bel_tr hbel (by go_grown)⟩
      case measure => simp [intOf]; omega
    · obtain rfl : k = n := by omega
      go_wp2
      go_ret
      exact ⟨rfl, hbel⟩

/-- A fraction and its code. -/
def FrC (p : Int × Int × Int) (w : World) (e : Ending) (w' : World) : Prop := e = .returned (.tuple #[.agg #[.int .i64 p.1, .int .i64 p.2.1], .int .i64 p.2.2]) ∧ Below w.heap.size w w'
theorem FrC.mk {p : Int × Int × Int} {w w' : World} {a b c : Int} (h : p = (a, b, c)) (hb : Below w.heap.size w w') : FrC p w (.returned (.tuple #[.agg #[.int .i64 a, .int .i64 b], .int .i64 c])) w' := by
  subst h; exact ⟨rfl, hb⟩
def meanF (xs : List Tested) : Int × Int × Int := if tcode xs = 0 then (lowN (psumT xs xs.length) xs.length, lowD (psumT xs xs.length) xs.length, 0) else (0, 0, tcode xs)
theorem tcode_zero {xs : List Tested} (h : tcode xs = 0) : testedOk xs = true ∧ 1 ≤ xs.length := by
  rw [tcode] at h
  split at h
  · rename_i h1
    split at h
    · omega
    · exact ⟨h1, by omega⟩
  · omega

set_option maxHeartbeats 1000000 in
theorem specMeanStrength_any (A : Option Addr) (n c : Nat) (xs : List Tested) (w : World) (hA : TestedS w A n xs) :
    Calls Try.prog 32 #[.slice A n c] w (FrC (meanF xs) w) := by
  have hn := hA.bound
  by_cases g : tcode xs = 0
  · obtain ⟨hok, hl⟩ := tcode_zero g
    have hb2 := psumT_bound hok xs.length (Nat.le_refl _)
    have h20 := testedOk_len hok
    rw [hA.len] at hl hb2 h20
    have E := Lib.hid (show meanF xs = (lowN (psumT xs n) n, lowD (psumT xs n) n, 0) by rw [meanF, if_pos g, hA.len])
    have G := Lib.hid g; clear g
    have OK := Lib.hid hok; clear hok
    go_enter Try.func32, Try.ntmps32
    go_wp2_with fail
    refine (l19Some_any _ _ _ xs _ (hA.below (by first | (go_grown; done) | (go_split_ands; assumption)))).mono ?_; rw [G.out]; rintro e w' ⟨rfl, rfl⟩
    go_wp2_with fail
    refine (l19Sum_any _ _ _ xs _ (hA.below (by first | (go_grown; done) | (go_split_ands; assumption))) OK.out).mono ?_; rintro e w' ⟨rfl, rfl⟩
    go_wp2_with fail
    refine (l02Make_any (psumT xs n) n _ (by omega) (by omega) hl).mono ?_; rintro e w1 ⟨rfl, hb1⟩
    obtain ⟨hc1, hf1⟩ := bcell hb1
    have hz1 := hb1.size
    simp only [World.size_alloc] at hz1
    go_wp2_with fail
    have H0 : Below w.heap.size w w1 := bel_tr (by go_grown) hb1
    refine bodyPost_ret (v := .tuple #[.agg #[.int .i64 (lowN (psumT xs n) n), .int .i64 (lowD (psumT xs n) n)], .int .i64 0]) (by simp [results, Try.results32, go_sem, hc1]) rfl (FrC.mk E.out ((H0.setCell (Nat.le_refl _) _).setCell (Nat.le_refl _) _))
  · have E := Lib.hid (show meanF xs = (0, 0, tcode xs) by rw [meanF, if_neg g])
    have hne : (tcode xs != 0) = true := by simpa using g
    clear g
    go_enter Try.func32, Try.ntmps32
    go_wp2_with fail
    refine (l19Some_any _ _ _ xs _ (hA.below (by first | (go_grown; done) | (go_split_ands; assumption)))).mono ?_; rintro e w' ⟨rfl, rfl⟩
    go_wp2_with fail
    refine bodyPost_ret (v := .tuple #[.agg #[.int .i64 0, .int .i64 0], .int .i64 (tcode xs)]) (by simp [results, Try.results32, go_sem]) rfl (FrC.mk E.out (by go_grown))

set_option maxHeartbeats 1000000 in
theorem implMeanStrength_any (A : Option Addr) (n c : Nat) (xs : List Tested) (w : World) (hA : TestedS w A n xs) :
    Calls Try.prog 33 #[.slice A n c] w (FrC (meanF xs) w) := by
  have hn := hA.bound
  by_cases g : tcode xs = 0
  · obtain ⟨hok, hl⟩ := tcode_zero g
    have hb2 := psumT_bound hok xs.length (Nat.le_refl _)
    have h20 := testedOk_len hok
    rw [hA.len] at hl hb2 h20
    have E := Lib.hid (show meanF xs = (lowN (psumT xs n) n, lowD (psumT xs n) n, 0) by rw [meanF, if_pos g, hA.len])
    have G := Lib.hid g; clear g
    have OK := Lib.hid hok; clear hok
    go_enter Try.func33, Try.ntmps33
    go_wp2_with fail
    refine (testedCode_any _ _ _ xs _ (hA.below (by first | (go_grown; done) | (go_split_ands; assumption)))).mono ?_; rw [G.out]; rintro e w1 ⟨rfl, hb1⟩
    obtain ⟨hc1, hf1⟩ := bcell hb1
    have hz1 := hb1.size
    simp only [World.size_alloc] at hz1
    have H1 : Below w.heap.size w w1 := bel_tr (by go_grown) hb1
    go_wp2_with fail
    refine (strengths_any _ _ _ xs _ (hA.below H1) OK.out).mono ?_; rintro e w2 ⟨rfl, hb2⟩
    obtain ⟨hc2, hf2⟩ := bcell hb2
    have hz2 := hb2.size
    have H2 : Below w.heap.size w w2 := bel_tr H1 hb2
    go_wp2_with fail
    refine (lowest_any (psumT xs n) n _ (by omega) (by omega) hl).mono ?_; rintro e w3 ⟨rfl, hb3⟩
    obtain ⟨hc3, hf3⟩ := bcell hb3
    have hz3 := hb3.size
    have H3 : Below w.heap.size w w3 := bel_tr H2 hb3
    have L1 : w.heap.size < w1.heap.size := by omega
    have L2 : w.heap.size < w2.heap.size := by omega
    go_wp2_with fail
    refine bodyPost_ret (v := .tuple #[.agg #[.int .i64 (lowN (psumT xs n) n), .int .i64 (lowD (psumT xs n) n)], .int .i64 0]) (by simp [results, Try.results33, go_sem, hc1, hc2, hc3, L1, L2]) rfl (FrC.mk E.out ((H3.setCell (Nat.le_refl _) _).setCell (Nat.le_refl _) _))
  · have E := Lib.hid (show meanF xs = (0, 0, tcode xs) by rw [meanF, if_neg g])
    have hne : (tcode xs != 0) = true := by simpa using g
    clear g
    go_enter Try.func33, Try.ntmps33
    go_wp2_with fail
    refine (testedCode_any _ _ _ xs _ (hA.below (by first | (go_grown; done) | (go_split_ands; assumption)))).mono ?_; rintro e w1 ⟨rfl, hb1⟩
    obtain ⟨hc1, hf1⟩ := bcell hb1
    have hz1 := hb1.size
    simp only [World.size_alloc] at hz1
    have H1 : Below w.heap.size w w1 := bel_tr (by go_grown) hb1
    go_wp2_with fail
    refine bodyPost_ret (v := .tuple #[.agg #[.int .i64 0, .int .i64 0], .int .i64 (tcode xs)]) (by simp [results, Try.results33, go_sem, hc1]) rfl (FrC.mk E.out ((H1.setCell (Nat.le_refl _) _).setCell (Nat.le_refl _) _))
end Go.Proofs.Ytnibggkjgpgljaa
