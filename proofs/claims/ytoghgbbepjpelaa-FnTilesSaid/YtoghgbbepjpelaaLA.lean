/- The contracts of the laws' own helpers: a2At, a2Sum, a2Rises, a2Has. -/
import Derived.Test.YtoghgbbepjpelaaRows
import Derived.Test.YtoghgbbepjpelaaBp
namespace Go.Proofs.Ytoghgbbepjpelaa
open Go.RowKit
set_option linter.unusedVariables false

/-- A number from 0 to below N. -/
def AtC (N : Int) (w : World) (e : Ending) (w' : World) : Prop := ∃ x : Int, e = .returned (.int .i64 x) ∧ 0 ≤ x ∧ x < N ∧ w = w'
theorem a2At_any (A : Option Addr) (n c : Nat) (i : Int) (N : Int) (w : World) (h : Bys w A n) (hi0 : 0 ≤ i) (hi : i ≤ 1000) (hN : 1 ≤ N) (hN2 : N ≤ 1000000) :
    Calls Try.prog 28 #[.slice A n c, .int .i64 i, .int .i64 N] w (AtC N w) := by
  have hn := h.1
  obtain ⟨i, rfl⟩ := Int.eq_ofNat_of_zero_le hi0
  by_cases g : (i : Int) ≥ n
  · go_enter Try.func28, Try.ntmps28
    go_wp2
    go_ret
    exact ⟨0, rfl, by omega, by omega, rfl⟩
  · obtain ⟨b, off, rfl, hb, hc⟩ := h.2 (by omega)
    obtain ⟨v, hv0, hv1, hcv⟩ := hc i (by omega)
    clear hc h
    have hr0 : 0 ≤ v % N := Int.emod_nonneg _ (by omega)
    have hr1 : v % N < N := Int.emod_lt_of_pos _ (by omega)
    have hN3 : ¬ N < 1 := by omega
    have hN4 : 0 < N := by omega
    go_enter Try.func28, Try.ntmps28
    go_wp2
    go_ret
    exact ⟨v % N, rfl, hr0, hr1, rfl⟩



end Go.Proofs.Ytoghgbbepjpelaa
