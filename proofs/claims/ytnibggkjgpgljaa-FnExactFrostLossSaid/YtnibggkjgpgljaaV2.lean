/- Racks and weather: the codes, and whether the bricks of a rack are dry on a day. -/
import Derived.Test.YtnibggkjgpgljaaV1
import Derived.Test.YtnibggkjgpgljaaW3
namespace Go.Proofs.Ytnibggkjgpgljaa
open Go.RowKit
set_option linter.unusedVariables false

theorem racksOk_at {xs : List Rack} (h : racksOk xs = true) {k : Nat} (hk : k < xs.length) : (nt xs k).okB = true := by
  simp only [racksOk, Bool.and_eq_true, List.all_eq_true] at h
  exact h.1 _ (nt_mem hk)
theorem racksOk_len {xs : List Rack} (h : racksOk xs = true) : xs.length ≤ 20 := by
  simp only [racksOk, Bool.and_eq_true, decide_eq_true_eq] at h
  exact h.2
theorem okB_facts {r : Rack} (h : r.okB = true) : (1 ≤ r.Room ∧ r.Room ≤ 2000) ∧ (0 ≤ r.Holds ∧ r.Holds ≤ r.Room) ∧ (0 ≤ r.Since ∧ r.Since ≤ 60) ∧ (0 ≤ r.Needs ∧ r.Needs ≤ 1000) := by
  simp only [Rack.okB, Bool.and_eq_true, inB_true] at h
  omega

def bothC (xs : List Rack) (s : ByteArray) : Int := if racksOk xs = true then (if weatherB s = true then 0 else 7) else 1
theorem bothC_zero {xs : List Rack} {s : ByteArray} (h : bothC xs s = 0) : racksOk xs = true ∧ weatherB s = true := by
  rw [bothC] at h
  split at h
  · split at h
    · exact ⟨by assumption, by assumption⟩
    · omega
  · omega
set_option maxHeartbeats 400000 in
theorem l15Both_any (A : Option Addr) (n c : Nat) (xs : List Rack) (s : ByteArray) (w : World) (hA : RackS w A n xs) (hs : s.size ≤ 9223372036854775807) :
    Calls Try.prog 69 #[.slice A n c, .string s] w fun e w' => e = .returned (.int .i64 (bothC xs s)) ∧ Below w.heap.size w w' := by
  rcases Bool.eq_false_or_eq_true (racksOk xs) with g | g
  · rcases Bool.eq_false_or_eq_true (weatherB s) with g1 | g1
    · have E := Lib.hid (show bothC xs s = 0 by rw [bothC, if_pos g, if_pos g1])
      have G := Lib.hid g; have G1 := Lib.hid g1; clear g g1
      go_enter Try.func69, Try.ntmps69
      go_wp2_with fail
      refine (asB (l15Ok_any _ _ _ xs _ hA) G.out).mono ?_; rintro e w1 ⟨rfl, hb1⟩
      go_wp2_with fail
      refine (asB (l15Weather_any s _ hs) G1.out).mono ?_; rintro e w' ⟨rfl, rfl⟩
      go_wp2_with fail
      go_ret
      exact ⟨ret_int E.out.symm, hb1⟩
    · have E := Lib.hid (show bothC xs s = 7 by rw [bothC, if_pos g, g1]; rfl)
      have G := Lib.hid g; have G1 := Lib.hid g1; clear g g1
      go_enter Try.func69, Try.ntmps69
      go_wp2_with fail
      refine (asB (l15Ok_any _ _ _ xs _ hA) G.out).mono ?_; rintro e w1 ⟨rfl, hb1⟩
      go_wp2_with fail
      refine (asB (l15Weather_any s _ hs) G1.out).mono ?_; rintro e w' ⟨rfl, rfl⟩
      go_wp2_with fail
      go_ret
      exact ⟨ret_int E.out.symm, hb1⟩
  · have E := Lib.hid (show bothC xs s = 1 by rw [bothC, g]; rfl)
    have G := Lib.hid g; clear g
    go_enter Try.func69, Try.ntmps69
    go_wp2_with fail
    refine (asB (l15Ok_any _ _ _ xs _ hA) G.out).mono ?_; rintro e w1 ⟨rfl, hb1⟩
    go_wp2_with fail
    go_ret
    exact ⟨ret_int E.out.symm, hb1⟩
set_option maxHeartbeats 400000 in
theorem racksCode_any (A : Option Addr) (n c : Nat) (xs : List Rack) (s : ByteArray) (w : World) (hA : RackS w A n xs) (hs : s.size ≤ 9223372036854775807) :
    Calls Try.prog 72 #[.slice A n c, .string s] w fun e w' => e = .returned (.int .i64 (bothC xs s)) ∧ Below w.heap.size w w' := by
  rcases Bool.eq_false_or_eq_true (racksOk xs) with g | g
  · rcases Bool.eq_false_or_eq_true (weatherB s) with g1 | g1
    · have E := Lib.hid (show bothC xs s = 0 by rw [bothC, if_pos g, if_pos g1])
      have G := Lib.hid g; have G1 := Lib.hid g1; clear g g1
      go_enter Try.func72, Try.ntmps72
      go_wp2_with fail
      refine (asB (implValidRacks_any _ _ _ xs _ hA) G.out).mono ?_; rintro e w1 ⟨rfl, hb1⟩
      go_wp2_with fail
      refine (asB (isWeather_any s _ hs) G1.out).mono ?_; rintro e w' ⟨rfl, rfl⟩
      go_wp2_with fail
      go_ret
      exact ⟨ret_int E.out.symm, hb1⟩
    · have E := Lib.hid (show bothC xs s = 7 by rw [bothC, if_pos g, g1]; rfl)
      have G := Lib.hid g; have G1 := Lib.hid g1; clear g g1
      go_enter Try.func72, Try.ntmps72
      go_wp2_with fail
      refine (asB (implValidRacks_any _ _ _ xs _ hA) G.out).mono ?_; rintro e w1 ⟨rfl, hb1⟩
      go_wp2_with fail
      refine (asB (isWeather_any s _ hs) G1.out).mono ?_; rintro e w' ⟨rfl, rfl⟩
      go_wp2_with fail
      go_ret
      exact ⟨ret_int E.out.symm, hb1⟩
  · have E := Lib.hid (show bothC xs s = 1 by rw [bothC, g]; rfl)
    have G := Lib.hid g; clear g
    go_enter Try.func72, Try.ntmps72
    go_wp2_with fail
    refine (asB (implValidRacks_any _ _ _ xs _ hA) G.out).mono ?_; rintro e w1 ⟨rfl, hb1⟩
    go_wp2_with fail
    go_ret
    exact ⟨ret_int E.out.symm, hb1⟩

end Go.Proofs.Ytnibggkjgpgljaa
