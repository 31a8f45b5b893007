/- The contract of the reference's CauseText. -/
import Derived.Test.YtmapjepdcbpalaaDoorCT
namespace Go.Proofs.YtmapjepdcbpalaaDoor
open Go.RowKit
set_option linter.unusedVariables false

theorem l18Words_any (w : World) :
    Calls Tryd.prog 12 #[] w fun e w' => e = .returned (.slice (some ⟨w.heap.size, 0, none⟩) 3 3) ∧ w' = w.alloc (.cells #[.string ⟨#[99, 108, 97, 121]⟩, .string ⟨#[109, 111, 117, 108, 100]⟩, .string ⟨#[99, 104, 97, 109, 98, 101, 114]⟩] 9) := by
  go_enter Tryd.func12, Tryd.ntmps12
  go_wp2
  go_ret
  exact ⟨rfl, rfl⟩
theorem words_at {w : World} {k : Int} (h : k = 1 ∨ k = 2 ∨ k = 3) : (w.alloc (.cells #[.string ⟨#[99, 108, 97, 121]⟩, .string ⟨#[109, 111, 117, 108, 100]⟩, .string ⟨#[99, 104, 97, 109, 98, 101, 114]⟩] 9)).cell? ⟨w.heap.size, (k - 1).toNat, none⟩ = some (.string (wordS k)) := by
  rcases h with rfl | rfl | rfl
  · show World.cell? _ ⟨_, 0, _⟩ = _; go_simp; rfl
  · show World.cell? _ ⟨_, 1, _⟩ = _; go_simp; rfl
  · show World.cell? _ ⟨_, 2, _⟩ = _; go_simp; rfl
/-- The three words, made by a call. -/
theorem l18Words_at (k : Int) (h : k = 1 ∨ k = 2 ∨ k = 3) (w : World) :
    Calls Tryd.prog 12 #[] w fun e w' => ∃ X, e = .returned (.slice (some ⟨X, 0, none⟩) 3 3) ∧ w'.cell? ⟨X, (k - 1).toNat, none⟩ = some (.string (wordS k)) ∧ X < w'.heap.size ∧ Below w.heap.size w w' :=
  (l18Words_any w).mono fun e w' ⟨he, hw⟩ => by
    subst hw
    exact ⟨_, he, words_at h, by simp, (Below.refl _ _).alloc (Nat.le_refl _) _⟩
theorem wordS_size (k : Int) : (wordS k).size ≤ 7 := by
  unfold wordS; split
  · decide
  · split <;> decide

set_option maxHeartbeats 8000000 in
theorem specCauseText_any (c : Cause) (w : World) :
    Calls Tryd.prog 5 #[.agg #[.int .i64 c.Kind, .int .i64 c.Number]] w fun e w' => e = .returned (.string (causeS c)) ∧ Below w.heap.size w w' := by
  rcases Bool.eq_false_or_eq_true (causeB c) with g | g
  · obtain ⟨hk, hn0, hn1⟩ := causeB_is g
    have R := Lib.hid (show causeS c = (wordS c.Kind ++ ⟨#[32]⟩) ++ decS c.Number by rw [causeS, if_pos g])
    have G := Lib.hid g; clear g
    obtain ⟨k, n⟩ := c
    simp only at hk hn0 hn1
    simp only at R
    have HK := Lib.hid hk
    have hk1 : 1 ≤ k := by omega
    have hk2 : k ≤ 3 := by omega
    have hi0 : 0 ≤ k - 1 := by omega
    have hi1 : k - 1 < 3 := by omega
    clear hk
    go_enter Tryd.func5, Tryd.ntmps5
    go_wp2_with fail
    refine (asB (l18Cause_any ⟨k, n⟩ _) G.out).mono ?_; rintro e w1 ⟨rfl, hb1⟩
    obtain ⟨hc1, hf1⟩ := bcell hb1
    have hz1 := hb1.size; simp only [World.size_alloc] at hz1
    have B1 : Below w.heap.size w w1 := bel_tr (by first | (go_grown; done) | (go_split_ands; assumption)) hb1
    have d0 : w1.cell? ⟨w.heap.size, 0, none⟩ = some (.int .i64 k) := (hc1 w.heap.size 0 (by simp)).trans (by go_simp)
    have d1 : w1.cell? ⟨w.heap.size, 1, none⟩ = some (.int .i64 n) := (hc1 w.heap.size 1 (by simp)).trans (by go_simp)
    have hl1 : w.heap.size < w1.heap.size := by omega
    have hsz := decS_size n (by omega) (by omega)
    have hws := wordS_size k
    have hw1 : IntKind.i64.wrap (k - 1) = k - 1 := IntWalk.i64_in _ (by omega)
    have hcat1 : ∀ W, (Op.stringOp .add (wordS k) ⟨#[32]⟩).run Tryd.prog W = .ok (.string (wordS k ++ ⟨#[32]⟩)) W := fun W => run_string_add_sum W _ _ (by show (wordS k).size + 1 ≤ _; omega)
    have hcat : ∀ W, (Op.stringOp .add (wordS k ++ ⟨#[32]⟩) (decS n)).run Tryd.prog W = .ok (.string ((wordS k ++ ⟨#[32]⟩) ++ decS n)) W := fun W => run_string_add_sum W _ _ (by rw [ByteArray.size_append]; show ((wordS k).size + 1) + (decS n).size ≤ _; omega)
    clear hc1 hf1 hb1
    go_wp2_with fail
    go_region_with ((first | (go_at_call 12; refine (l18Words_at k HK.out _).mono ?_; rintro e v1 ⟨X, rfl, x0, xl, hbv⟩; obtain ⟨hcv, hfv⟩ := bcell hbv; have hzv := hbv.size; (try simp only [World.size_drew] at hzv); have e0 : v1.cell? ⟨w.heap.size, 0, none⟩ = some (.int .i64 k) := (hcv _ 0 (by first | simpa using hl1 | simpa using L2)).trans (by first | simpa using d0 | simpa using y0); have e1 : v1.cell? ⟨w.heap.size, 1, none⟩ = some (.int .i64 n) := (hcv _ 1 (by first | simpa using hl1 | simpa using L2)).trans (by first | simpa using d1 | simpa using y1); have x1 : v1.cell? ⟨X, k.toNat - 1, none⟩ = some (.string (wordS k)) := (by have e : k.toNat - 1 = (k - 1).toNat := (by omega); rw [e]; exact x0); have L1 : w.heap.size < v1.heap.size := (by omega); have Tv : Below w1.heap.size w1 v1 := (by first | exact hbv | exact bel_tr (below_drew (Below.refl _ _)) hbv | exact bel_tr (below_drew Td) hbv | exact bel_tr Td hbv); clear hcv hfv) | (go_at_call 13; refine (l01Dec_any n _ (by omega) (by omega)).mono ?_; rintro e v2 ⟨rfl, hbd⟩; obtain ⟨hcd, hfd⟩ := bcell hbd; have hzd := hbd.size; (try simp only [World.size_drew] at hzd); have y0 : v2.cell? ⟨w.heap.size, 0, none⟩ = some (.int .i64 k) := (hcd _ 0 (by first | simpa using hl1 | simpa using L1)).trans (by first | simpa using d0 | simpa using e0); have y1 : v2.cell? ⟨w.heap.size, 1, none⟩ = some (.int .i64 n) := (hcd _ 1 (by first | simpa using hl1 | simpa using L1)).trans (by first | simpa using d1 | simpa using e1); (try have yx : v2.cell? ⟨X, k.toNat - 1, none⟩ = some (.string (wordS k)) := (hcd _ _ (by simpa using xl)).trans (by simpa using x1)); have L2 : w.heap.size < v2.heap.size := (by omega); have Td : Below w1.heap.size w1 v2 := (by first | exact hbd | exact bel_tr (below_drew (Below.refl _ _)) hbd | exact bel_tr (below_drew Tv) hbd | exact bel_tr Tv hbd); clear hcd hfd)))
    all_goals
      go_wp2_with fail
      go_ret
      rw [R.out]
      exact ⟨rfl, by first | exact bel_tr B1 Td | exact bel_tr B1 Tv | exact bel_tr B1 (below_drew Td) | exact bel_tr B1 (below_drew Tv)⟩
  · have E := Lib.hid (show causeS c = ⟨#[]⟩ by rw [causeS, g]; rfl)
    have G := Lib.hid g; clear g
    go_enter Tryd.func5, Tryd.ntmps5
    go_wp2_with fail
    refine (asB (l18Cause_any _ _) G.out).mono ?_; rintro e w1 ⟨rfl, hb1⟩
    go_wp2_with fail
    go_ret
    rw [E.out]
    exact ⟨rfl, bel_tr (by first | (go_grown; done) | (go_split_ands; assumption)) hb1⟩
end Go.Proofs.YtmapjepdcbpalaaDoor
