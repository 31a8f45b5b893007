/- Racks and weather: the codes, and whether the bricks of a rack are dry on a day. -/
import Derived.Test.YtoghgbbepjpelaaDoorV1
import Derived.Test.YtoghgbbepjpelaaDoorW3
namespace Go.Proofs.YtoghgbbepjpelaaDoor
open Go.RowKit
set_option linter.unusedVariables false

theorem racksOk_at {xs : List Rack} (h : racksOk xs = true) {k : Nat} (hk : k < xs.length) : (nt xs k).okB = true := by
  simp only [racksOk, Bool.and_eq_true, List.all_eq_true] at h
  exact h.1 _ (nt_mem hk)
theorem racksOk_len {xs : List Rack} (h : racksOk xs = true) : xs.length ≤ 20 := by
  simp only [racksOk, Bool.and_eq_true, decide_eq_true_eq] at h
  exact h.2
theorem okB_facts {r : Rack} (h : r.okB = true) : (1 ≤ r.Room ∧ r.Room ≤ 2000) ∧ (0 ≤ r.Holds ∧ r.Holds ≤ r.Room) ∧ (0 ≤ r.Since ∧ r.Since ≤ 60) ∧ (0 ≤ r.Needs ∧ r.Needs ≤ 1000) := by
  simp only [Rack.okB, Bool.and_eq_true, inB_true] at h
  omega

def bothC (xs : List Rack) (s : ByteArray) : Int := if racksOk xs = true then (if weatherB s = true then 0 else 7) else 1
theorem bothC_zero {xs : List Rack} {s : ByteArray} (h : bothC xs s = 0) : racksOk xs = true ∧ weatherB s = true := by
  rw [bothC] at h
  split at h
  · split at h
    · exact ⟨by assumption, by assumption⟩
    · omega
  · omega
end Go.Proofs.YtoghgbbepjpelaaDoor
