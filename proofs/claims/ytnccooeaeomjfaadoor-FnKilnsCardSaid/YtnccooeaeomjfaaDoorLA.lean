/- The contracts of the laws' own helpers: a2At, a2Sum, a2Rises, a2Has. -/
import Derived.Test.YtnccooeaeomjfaaDoorRows
import Derived.Test.YtnccooeaeomjfaaDoorBp
namespace Go.Proofs.YtnccooeaeomjfaaDoor
open Go.RowKit
set_option linter.unusedVariables false

/-- A number from 0 to below N. -/
def AtC (N : Int) (w : World) (e : Ending) (w' : World) : Prop := ∃ x : Int, e = .returned (.int .i64 x) ∧ 0 ≤ x ∧ x < N ∧ w = w'
theorem a2At_any (A : Option Addr) (n c : Nat) (i : Int) (N : Int) (w : World) (h : Bys w A n) (hi0 : 0 ≤ i) (hi : i ≤ 1000) (hN : 1 ≤ N) (hN2 : N ≤ 1000000) :
    Calls Tryd.prog 9 #[.slice A n c, .int .i64 i, .int .i64 N] w (AtC N w) := by
  have hn := h.1
  obtain ⟨i, rfl⟩ := Int.eq_ofNat_of_zero_le hi0
  by_cases g : (i : Int) ≥ n
  · go_enter Tryd.func9, Tryd.ntmps9
    go_wp2
    go_ret
    exact ⟨0, rfl, by omega, by omega, rfl⟩
  · obtain ⟨b, off, rfl, hb, hc⟩ := h.2 (by omega)
    obtain ⟨v, hv0, hv1, hcv⟩ := hc i (by omega)
    clear hc h
    have hr0 : 0 ≤ v % N := Int.emod_nonneg _ (by omega)
    have hr1 : v % N < N := Int.emod_lt_of_pos _ (by omega)
    have hN3 : ¬ N < 1 := by omega
    have hN4 : 0 < N := by omega
    go_enter Tryd.func9, Tryd.ntmps9
    go_wp2
    go_ret
    exact ⟨v % N, rfl, hr0, hr1, rfl⟩


theorem a2Rises_yes (A : Option Addr) (n c : Nat) (xs : List Int) (N : Int) (w : World) (hA : Ints w A n xs) (h : ∀ k, k < xs.length → 0 ≤ nth xs k ∧ nth xs k < N ∧ (0 < k → nth xs (k - 1) < nth xs k)) :
    Calls Tryd.prog 14 #[.slice A n c, .int .i64 N] w fun e w' => e = .returned (.bool true) ∧ Below w.heap.size w w' := by
  have hn := hA.bound
  have H := Lib.hid h; clear h
  go_enter Tryd.func14, Tryd.ntmps14
  go_wp2
  go_loopw [5] (fun i wr => ∃ j : Nat, j ≤ n ∧ i = .int .i64 j ∧ Below w.heap.size w wr) (fun i _ => n - (intOf i).toNat)
  case atStart => exact ⟨0, Nat.zero_le _, rfl, Below.refl _ _⟩
  case round =>
    obtain ⟨j, hj, rfl, hB⟩ := hrel
    by_cases hlt : j < n
    · obtain ⟨h0, h1, h2⟩ := H.out j (by rw [hA.len]; exact hlt)
      have hI := hA.below hB
      obtain ⟨b, off, rfl, hb, hc⟩ := hI.cell (by omega)
      have hck := hc j hlt
      have g0 : decide (nth xs j < 0) = false := decide_eq_false (by omega)
      have g1 : decide (nth xs j ≥ N) = false := decide_eq_false (by omega)
      have g1' : decide (N ≤ nth xs j) = false := decide_eq_false (by omega)
      rcases Nat.eq_zero_or_pos j with hz | hp
      · subst hz
        have hck' : wr.cell? ⟨b, off, none⟩ = some (.int .i64 (nth xs 0)) := hck
        clear hc
        have HB := Lib.hid hB; clear hB
        go_wp2
        go_quiet (fail)
        go_wp2
        go_roundw
        case rel => exact ⟨1, by omega, by go_num, by first | exact HB.out | exact below_drewN HB.out _⟩
        case measure => simp [intOf]; omega
      · have hck2 := hc (j - 1) (by omega)
        have hp2 : (0 : Int) < j := by omega
        have g2 : decide (nth xs (j - 1) ≥ nth xs j) = false := decide_eq_false (by have := h2 hp; omega)
        have g2' : decide (nth xs j ≤ nth xs (j - 1)) = false := decide_eq_false (by have := h2 hp; omega)
        clear hc h2
        have HB := Lib.hid hB; clear hB
        go_wp2
        go_quiet (fail)
        go_wp2
        go_roundw
        case rel => exact ⟨j + 1, by omega, by go_num, by first | exact HB.out | exact below_drewN HB.out _⟩
        case measure => simp [intOf]; omega
    · obtain rfl : j = n := by omega
      go_wp2
      go_ret
      exact ⟨rfl, hB⟩

theorem a2Has_any (A : Option Addr) (n c : Nat) (xs : List Int) (x : Int) (w : World) (hA : Ints w A n xs) :
    Calls Tryd.prog 15 #[.slice A n c, .int .i64 x] w fun e w' => e = .returned (.bool (decide (x ∈ xs))) ∧ w = w' := by
  have hn := hA.bound
  have hl := hA.len
  by_cases hin : x ∈ xs
  · have E : decide (x ∈ xs) = true := decide_eq_true hin
    rw [E]
    obtain ⟨m, hm, hx⟩ := List.getElem_of_mem hin
    have hx' : nth xs m = x := by rw [nth_lt hm]; exact hx
    have HX := Lib.hid hx'
    clear hin E hx hx'
    go_enter Tryd.func15, Tryd.ntmps15
    go_wp2
    go_loop [5] (fun i => ∃ j : Nat, j ≤ m ∧ i = .int .i64 j) (fun i => n - (intOf i).toNat)
    case atStart => exact ⟨0, Nat.zero_le _, rfl⟩
    case round =>
      obtain ⟨j, hj, rfl⟩ := hrel
      have hlt : j < n := by omega
      obtain ⟨b, off, rfl, hb, hc⟩ := hA.cell (by omega)
      have hck := hc j hlt
      clear hc
      by_cases e : nth xs j = x
      · have e2 : (nth xs j == x) = true := by simpa using e
        clear e
        go_wp2
        go_ret
        exact ⟨rfl, rfl⟩
      · have hne : j ≠ m := fun h => e (by rw [h]; exact HX.out)
        have e2 : (nth xs j == x) = false := by simpa using e
        clear e
        go_wp2
        go_round
        case rel => exact ⟨j + 1, by omega, by go_num⟩
        case measure => simp [intOf]; omega
  · have E : decide (x ∈ xs) = false := decide_eq_false hin
    rw [E]
    have HN := Lib.hid (show ∀ j, j < n → nth xs j ≠ x from fun j hj e => hin (by rw [← e, nth_lt (by omega)]; exact List.getElem_mem _))
    clear hin E
    go_enter Tryd.func15, Tryd.ntmps15
    go_wp2
    go_loop [5] (fun i => ∃ j : Nat, j ≤ n ∧ i = .int .i64 j) (fun i => n - (intOf i).toNat)
    case atStart => exact ⟨0, Nat.zero_le _, rfl⟩
    case round =>
      obtain ⟨j, hj, rfl⟩ := hrel
      by_cases hlt : j < n
      · obtain ⟨b, off, rfl, hb, hc⟩ := hA.cell (by omega)
        have hck := hc j hlt
        have e2 : (nth xs j == x) = false := by simpa using HN.out j hlt
        clear hc
        go_wp2
        go_round
        case rel => exact ⟨j + 1, by omega, by go_num⟩
        case measure => simp [intOf]; omega
      · obtain rfl : j = n := by omega
        go_wp2
        go_ret
        exact ⟨rfl, rfl⟩
end Go.Proofs.YtnccooeaeomjfaaDoor
