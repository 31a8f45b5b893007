/- The contracts of WeakestTested, the reference's and the program's. -/
import Derived.Test.YtnibggkjgpgljaaT1
namespace Go.Proofs.Ytnibggkjgpgljaa
open Go.RowKit
set_option linter.unusedVariables false

def tcode (xs : List Tested) : Int := if testedOk xs = true then (if xs.length = 0 then 3 else 0) else 1

theorem l19Some_any (A : Option Addr) (n c : Nat) (xs : List Tested) (w : World) (hA : TestedS w A n xs) :
    Calls Try.prog 63 #[.slice A n c] w fun e w' => e = .returned (.int .i64 (tcode xs)) ∧ w = w' := by
  have hn := hA.bound
  rcases Bool.eq_false_or_eq_true (testedOk xs) with g | g
  · by_cases h0 : n = 0
    · have E := Lib.hid (show tcode xs = 3 by rw [tcode, if_pos g, if_pos (by rw [hA.len]; exact h0)])
      have G := Lib.hid g; clear g
      subst h0
      go_enter Try.func63, Try.ntmps63
      go_wp2_with fail
      refine (asB (l19Ok_any _ _ _ xs _ hA) G.out).mono ?_; rintro e w' ⟨rfl, rfl⟩
      go_wp2_with fail
      go_ret
      exact ⟨ret_int E.out.symm, rfl⟩
    · have E := Lib.hid (show tcode xs = 0 by rw [tcode, if_pos g, if_neg (by rw [hA.len]; exact h0)])
      have G := Lib.hid g; clear g
      have hp : ((n : Int) == 0) = false := by simpa using h0
      go_enter Try.func63, Try.ntmps63
      go_wp2_with fail
      refine (asB (l19Ok_any _ _ _ xs _ hA) G.out).mono ?_; rintro e w' ⟨rfl, rfl⟩
      go_wp2_with fail
      go_ret
      exact ⟨ret_int E.out.symm, rfl⟩
  · have E := Lib.hid (show tcode xs = 1 by rw [tcode, g]; rfl)
    have G := Lib.hid g; clear g
    go_enter Try.func63, Try.ntmps63
    go_wp2_with fail
    refine (asB (l19Ok_any _ _ _ xs _ hA) G.out).mono ?_; rintro e w' ⟨rfl, rfl⟩
    go_wp2_with fail
    go_ret
    exact ⟨ret_int E.out.symm, rfl⟩

theorem testedCode_any (A : Option Addr) (n c : Nat) (xs : List Tested) (w : World) (hA : TestedS w A n xs) :
    Calls Try.prog 64 #[.slice A n c] w fun e w' => e = .returned (.int .i64 (tcode xs)) ∧ Below w.heap.size w w' := by
  have hn := hA.bound
  rcases Bool.eq_false_or_eq_true (testedOk xs) with g | g
  · by_cases h0 : n = 0
    · have E := Lib.hid (show tcode xs = 3 by rw [tcode, if_pos g, if_pos (by rw [hA.len]; exact h0)])
      have G := Lib.hid g; clear g
      subst h0
      go_enter Try.func64, Try.ntmps64
      go_wp2_with fail
      refine (asB (implValidTested_any _ _ _ xs _ hA) G.out).mono ?_; rintro e w1 ⟨rfl, hb1⟩
      go_wp2_with fail
      go_ret
      exact ⟨ret_int E.out.symm, hb1⟩
    · have E := Lib.hid (show tcode xs = 0 by rw [tcode, if_pos g, if_neg (by rw [hA.len]; exact h0)])
      have G := Lib.hid g; clear g
      have hp : ((n : Int) == 0) = false := by simpa using h0
      go_enter Try.func64, Try.ntmps64
      go_wp2_with fail
      refine (asB (implValidTested_any _ _ _ xs _ hA) G.out).mono ?_; rintro e w1 ⟨rfl, hb1⟩
      go_wp2_with fail
      go_ret
      exact ⟨ret_int E.out.symm, hb1⟩
  · have E := Lib.hid (show tcode xs = 1 by rw [tcode, g]; rfl)
    have G := Lib.hid g; clear g
    go_enter Try.func64, Try.ntmps64
    go_wp2_with fail
    refine (asB (implValidTested_any _ _ _ xs _ hA) G.out).mono ?_; rintro e w1 ⟨rfl, hb1⟩
    go_wp2_with fail
    go_ret
    exact ⟨ret_int E.out.symm, hb1⟩

/-- b is the first of the weakest among the first n. -/
structure IsLow (xs : List Tested) (n : Nat) (b : Nat) : Prop where
  lt : b < n
  all : ∀ j, j < n → (nt xs b).Strength ≤ (nt xs j).Strength
  first : ∀ j, j < b → (nt xs b).Strength < (nt xs j).Strength
theorem IsLow.unique {xs : List Tested} {n b c : Nat} (h : IsLow xs n b) (k : IsLow xs n c) : b = c := by
  rcases Nat.lt_trichotomy b c with hl | hl | hl
  · have h1 := k.first b hl
    have h2 := h.all c k.lt
    omega
  · exact hl
  · have h1 := h.first c hl
    have h2 := k.all b h.lt
    omega
theorem IsLow.one (xs : List Tested) : IsLow xs 1 0 := ⟨by omega, fun j hj => by obtain rfl : j = 0 := by omega
                                                                                 omega, fun j hj => absurd hj (by omega)⟩
theorem IsLow.step_yes {xs : List Tested} {n b : Nat} (h : IsLow xs n b) (hg : (nt xs n).Strength < (nt xs b).Strength) : IsLow xs (n + 1) n :=
  ⟨by omega, fun j hj => by
    rcases Nat.lt_or_ge j n with hl | hl
    · have := h.all j hl; omega
    · obtain rfl : j = n := by omega
      omega, fun j hj => by have := h.all j hj; omega⟩
theorem IsLow.step_no {xs : List Tested} {n b : Nat} (h : IsLow xs n b) (hg : ¬ (nt xs n).Strength < (nt xs b).Strength) : IsLow xs (n + 1) b :=
  ⟨by have := h.lt; omega, fun j hj => by
    rcases Nat.lt_or_ge j n with hl | hl
    · exact h.all j hl
    · obtain rfl : j = n := by omega
      omega, h.first⟩
noncomputable def lowV (xs : List Tested) : Int := open Classical in if h : ∃ b : Nat, IsLow xs xs.length b then ((Classical.choose h : Nat) : Int) else 0
theorem lowV_is {xs : List Tested} {b : Nat} (h : IsLow xs xs.length b) : lowV xs = b := by
  have hx : ∃ b : Nat, IsLow xs xs.length b := ⟨b, h⟩
  unfold lowV
  rw [dif_pos hx]
  have := (Classical.choose_spec hx).unique h
  rw [this]
noncomputable def lowF (xs : List Tested) : Int × Int := if tcode xs = 0 then (lowV xs, 0) else (0, tcode xs)

set_option maxHeartbeats 1000000 in
theorem specWeakestTested_any (A : Option Addr) (n c : Nat) (xs : List Tested) (w : World) (hA : TestedS w A n xs) :
    Calls Try.prog 28 #[.slice A n c] w (Two (lowF xs) w) := by
  have hn := hA.bound
  by_cases g : tcode xs = 0
  · have E := Lib.hid (show lowF xs = (lowV xs, 0) by rw [lowF, if_pos g])
    have hl : 1 ≤ n := by
      have h := g
      rw [tcode] at h
      split at h
      · split at h
        · omega
        · rename_i h0; rw [hA.len] at h0; omega
      · omega
    have G := Lib.hid g; clear g
    have L := Lib.hid hA.len
    go_enter Try.func28, Try.ntmps28
    go_wp2_with fail
    refine (l19Some_any _ _ _ xs _ hA).mono ?_; rw [G.out]; rintro e w' ⟨rfl, rfl⟩
    go_wp2
    go_loopw [5, 6] (fun s i wr => ∃ k b : Nat, k + 1 ≤ n ∧ i = .int .i64 ((k : Int) + 1) ∧ s = .int .i64 b ∧ IsLow xs (k + 1) b ∧ Below w.heap.size w wr) (fun _ i _ => n + 1 - (intOf i).toNat)
    case atStart => exact ⟨0, 0, by omega, rfl, rfl, IsLow.one _, Below.refl _ _⟩
    case round =>
      obtain ⟨k, bb, hk, rfl, rfl, hh, hbel⟩ := hrel
      have hbl := hh.lt
      have HH := Lib.hid hh; clear hh
      by_cases hlt : k + 1 < n
      · obtain ⟨b, off, rfl, hb, hc⟩ := (hA.below hbel).cell (by omega)
        obtain ⟨hq0, _⟩ := hc bb (by omega)
        obtain ⟨hp0, _⟩ := hc (k + 1) hlt
        have hi0 : (0 : Int) ≤ (k : Int) + 1 := by omega
        have hi1 : (k : Int) + 1 < (n : Int) := by omega
        have hi2 : (bb : Int) < (n : Int) := by omega
        clear hc
        by_cases hq : (nt xs (k + 1)).Strength < (nt xs bb).Strength
        · have HQ := Lib.hid hq
          go_wp2
          go_quiet (fail)
          go_wp2
          go_roundw
          case rel => exact ⟨k + 1, k + 1, by omega, by go_num, by go_num, HH.out.step_yes (by have := HQ.out; omega), bel_tr hbel (below_drewN (Below.refl _ _) _)⟩
          case measure => simp [intOf]; omega
        · have HQ := Lib.hid hq
          go_wp2
          go_quiet (fail)
          go_wp2
          go_roundw
          case rel => exact ⟨k + 1, bb, by omega, by go_num, rfl, HH.out.step_no (by have := HQ.out; omega), bel_tr hbel (below_drewN (Below.refl _ _) _)⟩
          case measure => simp [intOf]; omega
      · obtain rfl : n = k + 1 := by omega
        go_wp2
        go_ret2
        exact Two.mk (by rw [E.out, lowV_is (by rw [L.out]; exact HH.out)]) hbel
  · have E := Lib.hid (show lowF xs = (0, tcode xs) by rw [lowF, if_neg g])
    have hne : (tcode xs != 0) = true := by simpa using g
    clear g
    go_enter Try.func28, Try.ntmps28
    go_wp2_with fail
    refine (l19Some_any _ _ _ xs _ hA).mono ?_; rintro e w' ⟨rfl, rfl⟩
    go_wp2_with fail
    go_ret2
    exact Two.mk E.out (Below.refl _ _)

set_option maxHeartbeats 1000000 in
theorem implWeakestTested_any (A : Option Addr) (n c : Nat) (xs : List Tested) (w : World) (hA : TestedS w A n xs) :
    Calls Try.prog 29 #[.slice A n c] w (Two (lowF xs) w) := by
  have hn := hA.bound
  by_cases g : tcode xs = 0
  · have E := Lib.hid (show lowF xs = (lowV xs, 0) by rw [lowF, if_pos g])
    have hl : 1 ≤ n := by
      have h := g
      rw [tcode] at h
      split at h
      · split at h
        · omega
        · rename_i h0; rw [hA.len] at h0; omega
      · omega
    have G := Lib.hid g; clear g
    have L := Lib.hid hA.len
    go_enter Try.func29, Try.ntmps29
    go_wp2_with fail
    refine (testedCode_any _ _ _ xs _ hA).mono ?_; rw [G.out]; rintro e w1 ⟨rfl, hb1⟩
    go_wp2
    go_loopw [5, 15] (fun s i wr => ∃ k b : Nat, k ≤ n ∧ b < n ∧ i = .int .i64 k ∧ s = .int .i64 b ∧ (k = 0 ∧ b = 0 ∨ IsLow xs k b) ∧ Below w.heap.size w wr) (fun _ i _ => n - (intOf i).toNat)
    case atStart => exact ⟨0, 0, by omega, by omega, rfl, rfl, .inl ⟨rfl, rfl⟩, hb1⟩
    case round =>
      obtain ⟨k, bb, hk, hbn, rfl, rfl, hh, hbel⟩ := hrel
      have HH := Lib.hid hh; clear hh
      by_cases hlt : k < n
      · obtain ⟨b, off, rfl, hb, hc⟩ := (hA.below hbel).cell (by omega)
        obtain ⟨hq0, _⟩ := hc bb (by omega)
        obtain ⟨hp0, hp1⟩ := hc k hlt
        have hi2 : (bb : Int) < (n : Int) := by omega
        clear hc
        by_cases hq : (nt xs k).Strength < (nt xs bb).Strength
        · have HN := Lib.hid (show IsLow xs (k + 1) k by
            rcases HH.out with ⟨rfl, rfl⟩ | h
            · omega
            · exact h.step_yes hq)
          go_wp2
          go_quiet (fail)
          go_wp2
          go_roundw
          case rel => exact ⟨k + 1, k, by omega, by omega, by go_num, by go_num, .inr HN.out, bel_tr hbel (below_drewN (by go_grown) _)⟩
          case measure => simp [intOf]; omega
        · have HN := Lib.hid (show IsLow xs (k + 1) bb by
            rcases HH.out with ⟨rfl, rfl⟩ | h
            · exact IsLow.one _
            · exact h.step_no hq)
          go_wp2
          go_quiet (fail)
          go_wp2
          go_roundw
          case rel => exact ⟨k + 1, bb, by omega, by omega, by go_num, rfl, .inr HN.out, bel_tr hbel (below_drewN (by go_grown) _)⟩
          case measure => simp [intOf]; omega
      · obtain rfl : n = k := by omega
        have HN := Lib.hid (show IsLow xs n bb by
          rcases HH.out with ⟨rfl, rfl⟩ | h
          · omega
          · exact h)
        go_wp2
        go_ret2
        exact Two.mk (by rw [E.out, lowV_is (by rw [L.out]; exact HN.out)]) hbel
  · have E := Lib.hid (show lowF xs = (0, tcode xs) by rw [lowF, if_neg g])
    have hne : (tcode xs != 0) = true := by simpa using g
    clear g
    go_enter Try.func29, Try.ntmps29
    go_wp2_with fail
    refine (testedCode_any _ _ _ xs _ hA).mono ?_; rintro e w1 ⟨rfl, hb1⟩
    go_wp2_with fail
    go_ret2
    exact Two.mk E.out hb1
end Go.Proofs.Ytnibggkjgpgljaa
