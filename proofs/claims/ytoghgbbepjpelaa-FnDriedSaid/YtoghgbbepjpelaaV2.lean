/- Racks and weather: the codes, and whether the bricks of a rack are dry on a day. -/
import Derived.Test.YtoghgbbepjpelaaV1
import Derived.Test.YtoghgbbepjpelaaW3
namespace Go.Proofs.Ytoghgbbepjpelaa
open Go.RowKit
set_option linter.unusedVariables false

theorem racksOk_at {xs : List Rack} (h : racksOk xs = true) {k : Nat} (hk : k < xs.length) : (nt xs k).okB = true := by
  simp only [racksOk, Bool.and_eq_true, List.all_eq_true] at h
  exact h.1 _ (nt_mem hk)
theorem racksOk_len {xs : List Rack} (h : racksOk xs = true) : xs.length ≤ 20 := by
  simp only [racksOk, Bool.and_eq_true, decide_eq_true_eq] at h
  exact h.2
theorem okB_facts {r : Rack} (h : r.okB = true) : (1 ≤ r.Room ∧ r.Room ≤ 2000) ∧ (0 ≤ r.Holds ∧ r.Holds ≤ r.Room) ∧ (0 ≤ r.Since ∧ r.Since ≤ 60) ∧ (0 ≤ r.Needs ∧ r.Needs ≤ 1000) := by
  simp only [Rack.okB, Bool.and_eq_true, inB_true] at h
  omega

def bothC (xs : List Rack) (s : ByteArray) : Int := if racksOk xs = true then (if weatherB s = true then 0 else 7) else 1
theorem bothC_zero {xs : List Rack} {s : ByteArray} (h : bothC xs s = 0) : racksOk xs = true ∧ weatherB s = true := by
  rw [bothC] at h
  split at h
  · split at h
    · exact ⟨by assumption, by assumption⟩
    · omega
  · omega
set_option maxHeartbeats 400000 in
theorem l15Both_any (A : Option Addr) (n c : Nat) (xs : List Rack) (s : ByteArray) (w : World) (hA : RackS w A n xs) (hs : s.size ≤ 9223372036854775807) :
    Calls Try.prog 76 #[.slice A n c, .string s] w fun e w' => e = .returned (.int .i64 (bothC xs s)) ∧ Below w.heap.size w w' := by
  rcases Bool.eq_false_or_eq_true (racksOk xs) with g | g
  · rcases Bool.eq_false_or_eq_true (weatherB s) with g1 | g1
    · have E := Lib.hid (show bothC xs s = 0 by rw [bothC, if_pos g, if_pos g1])
      have G := Lib.hid g; have G1 := Lib.hid g1; clear g g1
      go_enter Try.func76, Try.ntmps76
      go_wp2_with fail
      refine (asB (l15Ok_any _ _ _ xs _ hA) G.out).mono ?_; rintro e w1 ⟨rfl, hb1⟩
      go_wp2_with fail
      refine (asB (l15Weather_any s _ hs) G1.out).mono ?_; rintro e w' ⟨rfl, rfl⟩
      go_wp2_with fail
      go_ret
      exact ⟨ret_int E.out.symm, hb1⟩
    · have E := Lib.hid (show bothC xs s = 7 by rw [bothC, if_pos g, g1]; rfl)
      have G := Lib.hid g; have G1 := Lib.hid g1; clear g g1
      go_enter Try.func76, Try.ntmps76
      go_wp2_with fail
      refine (asB (l15Ok_any _ _ _ xs _ hA) G.out).mono ?_; rintro e w1 ⟨rfl, hb1⟩
      go_wp2_with fail
      refine (asB (l15Weather_any s _ hs) G1.out).mono ?_; rintro e w' ⟨rfl, rfl⟩
      go_wp2_with fail
      go_ret
      exact ⟨ret_int E.out.symm, hb1⟩
  · have E := Lib.hid (show bothC xs s = 1 by rw [bothC, g]; rfl)
    have G := Lib.hid g; clear g
    go_enter Try.func76, Try.ntmps76
    go_wp2_with fail
    refine (asB (l15Ok_any _ _ _ xs _ hA) G.out).mono ?_; rintro e w1 ⟨rfl, hb1⟩
    go_wp2_with fail
    go_ret
    exact ⟨ret_int E.out.symm, hb1⟩
set_option maxHeartbeats 400000 in
theorem racksCode_any (A : Option Addr) (n c : Nat) (xs : List Rack) (s : ByteArray) (w : World) (hA : RackS w A n xs) (hs : s.size ≤ 9223372036854775807) :
    Calls Try.prog 74 #[.slice A n c, .string s] w fun e w' => e = .returned (.int .i64 (bothC xs s)) ∧ Below w.heap.size w w' := by
  rcases Bool.eq_false_or_eq_true (racksOk xs) with g | g
  · rcases Bool.eq_false_or_eq_true (weatherB s) with g1 | g1
    · have E := Lib.hid (show bothC xs s = 0 by rw [bothC, if_pos g, if_pos g1])
      have G := Lib.hid g; have G1 := Lib.hid g1; clear g g1
      go_enter Try.func74, Try.ntmps74
      go_wp2_with fail
      refine (asB (implValidRacks_any _ _ _ xs _ hA) G.out).mono ?_; rintro e w1 ⟨rfl, hb1⟩
      go_wp2_with fail
      refine (asB (isWeather_any s _ hs) G1.out).mono ?_; rintro e w' ⟨rfl, rfl⟩
      go_wp2_with fail
      go_ret
      exact ⟨ret_int E.out.symm, hb1⟩
    · have E := Lib.hid (show bothC xs s = 7 by rw [bothC, if_pos g, g1]; rfl)
      have G := Lib.hid g; have G1 := Lib.hid g1; clear g g1
      go_enter Try.func74, Try.ntmps74
      go_wp2_with fail
      refine (asB (implValidRacks_any _ _ _ xs _ hA) G.out).mono ?_; rintro e w1 ⟨rfl, hb1⟩
      go_wp2_with fail
      refine (asB (isWeather_any s _ hs) G1.out).mono ?_; rintro e w' ⟨rfl, rfl⟩
      go_wp2_with fail
      go_ret
      exact ⟨ret_int E.out.symm, hb1⟩
  · have E := Lib.hid (show bothC xs s = 1 by rw [bothC, g]; rfl)
    have G := Lib.hid g; clear g
    go_enter Try.func74, Try.ntmps74
    go_wp2_with fail
    refine (asB (implValidRacks_any _ _ _ xs _ hA) G.out).mono ?_; rintro e w1 ⟨rfl, hb1⟩
    go_wp2_with fail
    go_ret
    exact ⟨ret_int E.out.symm, hb1⟩

/-- Are the bricks of a rack dry on a day? -/
def readyB (s : ByteArray) (r : Rack) (d : Nat) : Bool := decide (0 < r.Holds) && isDryB s r.Since.toNat r.Needs d

set_option maxHeartbeats 1000000 in
theorem l15Ready_any (b o : Nat) (r : Rack) (s : ByteArray) (d : Nat) (w : World) (hr : r.lies w b o) (hok : r.okB = true) (hs : s.size ≤ 9223372036854775807) (hW : weatherB s = true) (hd : d ≤ s.size) :
    Calls Try.prog 77 #[.pointer (some ⟨b, o, none⟩), .string s, .int .i64 d] w fun e w' => e = .returned (.bool (readyB s r d)) ∧ Below w.heap.size w w' := by
  obtain ⟨_, hcb, hsb, hnb⟩ := okB_facts hok
  have HW := Lib.hid hW; clear hok hW
  obtain ⟨h0, h1, h2, h3⟩ := hr
  clear h0
  obtain ⟨a, ha⟩ := Int.eq_ofNat_of_zero_le hsb.1
  rw [ha] at h2
  have ha60 : a ≤ 60 := by omega
  have E0 : readyB s r d = (decide (0 < r.Holds) && (decide (a ≤ d) && decide (r.Needs ≤ psW s a (d - a)))) := by rw [readyB, isDryB, ha]; rfl
  have E := Lib.hid E0; clear E0 ha hsb hcb hnb
  rcases Bool.eq_false_or_eq_true (decide (0 < r.Holds)) with g | g
  · rcases Bool.eq_false_or_eq_true (decide (a ≤ d)) with g1 | g1
    · have G := Lib.hid g; have G1 := Lib.hid g1
      go_enter Try.func77, Try.ntmps77
      go_wp2
      go_quiet ((go_at_call 70; exact q_same (l15Sum_any s a d _ hs HW.out hd (by omega))))
      go_wp2
      go_ret
      exact ⟨ret_bool (by rw [E.out, G.out, G1.out]; simp), below_drewN (Below.refl _ _) _⟩
    · have G := Lib.hid g; have G1 := Lib.hid g1
      go_enter Try.func77, Try.ntmps77
      go_wp2
      go_quiet (fail)
      go_wp2
      go_ret
      exact ⟨ret_bool (by rw [E.out, G1.out]; simp), below_drewN (Below.refl _ _) _⟩
  · have G := Lib.hid g
    go_enter Try.func77, Try.ntmps77
    go_wp2
    go_quiet (fail)
    go_wp2
    go_ret
    exact ⟨ret_bool (by rw [E.out, G.out]; simp), below_drewN (Below.refl _ _) _⟩

set_option maxHeartbeats 1000000 in
theorem isReady_any (r : Rack) (s : ByteArray) (d : Nat) (w : World) (hok : r.okB = true) (hs : s.size ≤ 9223372036854775807) (hW : weatherB s = true) (hd : d ≤ s.size) :
    Calls Try.prog 75 #[.agg #[.int .i64 r.Room, .int .i64 r.Holds, .int .i64 r.Since, .int .i64 r.Needs], .string s, .int .i64 d] w fun e w' => e = .returned (.bool (readyB s r d)) ∧ Below w.heap.size w w' := by
  obtain ⟨_, hcb, hsb, hnb⟩ := okB_facts hok
  have HW := Lib.hid hW; clear hok hW
  obtain ⟨a, ha⟩ := Int.eq_ofNat_of_zero_le hsb.1
  have ha60 : a ≤ 60 := by omega
  have E0 : readyB s r d = (decide (0 < r.Holds) && isDryB s a r.Needs d) := by rw [readyB, ha]; rfl
  have E := Lib.hid E0
  rw [ha]
  clear E0 ha hsb hcb hnb
  rcases Bool.eq_false_or_eq_true (decide (0 < r.Holds)) with g | g
  · have G := Lib.hid g
    go_enter Try.func75, Try.ntmps75
    go_wp2_with (go_at_call 66; refine (isDry_any s a d r.Needs _ hs HW.out hd (by omega)).mono ?_; rintro e w' ⟨rfl, rfl⟩)
    go_ret
    exact ⟨ret_bool (by rw [E.out, G.out]; simp), by go_grown⟩
  · have G := Lib.hid g
    go_enter Try.func75, Try.ntmps75
    go_wp2_with fail
    go_ret
    exact ⟨ret_bool (by rw [E.out, G.out]; simp), by go_grown⟩
end Go.Proofs.Ytoghgbbepjpelaa
