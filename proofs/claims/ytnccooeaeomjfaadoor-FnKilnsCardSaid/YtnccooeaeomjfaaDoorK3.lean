/- The contracts of the kiln's functions, third part: the stage of a phase, of a chamber. -/
import Derived.Test.YtnccooeaeomjfaaDoorK2
namespace Go.Proofs.YtnccooeaeomjfaaDoor
open Go.RowKit
set_option linter.unusedVariables false

set_option maxHeartbeats 400000 in
theorem stageOf_any (ch : Int) (A : Option Addr) (n cp : Nat) (xs : List Int) (p : Int) (w : World) (hA : Ints w A n xs) (hL : lensOk xs = true) (hp0 : -1000000 ≤ p) (hp1 : p ≤ 1000000) :
    Calls Tryd.prog 29 #[.agg #[.int .i64 ch, .slice A n cp], .int .i64 p] w fun e w' => e = .returned (.int .i64 (stg xs p 0)) ∧ Below w.heap.size w w' := by
  obtain rfl : n = 5 := by rw [← hA.len]; exact lensOk_len hL
  have L := Lib.hid hL; clear hL
  go_enter Tryd.func29, Tryd.ntmps29
  go_wp2
  go_loop [1, 10] (fun s i => ∃ k : Nat, k ≤ 5 ∧ i = .int .i64 k ∧ s = .int .i64 (p - psum xs k) ∧ stg xs p 0 = stg (xs.drop k) (p - psum xs k) k) (fun _ i => 5 - (intOf i).toNat)
  case atStart => exact ⟨0, Nat.zero_le _, rfl, by rw [psum_zero, Int.sub_zero], by rw [psum_zero]; simp⟩
  case round =>
    obtain ⟨k, hk, rfl, rfl, hs⟩ := hrel
    have S := Lib.hid hs; clear hs
    by_cases hlt : k < 5
    · obtain ⟨b', off, rfl, hb, hc⟩ := hA.cell (by omega)
      have hck := (World.cell?_alloc_lt w (.cells #[.int .i64 ch, .slice (some ⟨b', off, none⟩) 5 cp] 28) ⟨b', off + k, none⟩ hb).trans (hc k hlt)
      have hlx : k < xs.length := by rw [lensOk_len L.out]; exact hlt
      have b1 := psum_bound L.out k hk
      have b2 := lensOk_nth L.out hlt
      have P := Lib.hid (psum_succ hlx)
      have T := Lib.hid (stg_step (p := p - psum xs k) (i := k) hlx)
      clear hc
      go_wp2
      · rename_i ht
        go_ret
        exact ⟨ret_int (by rw [S.out, T.out, if_pos (by omega)]), by go_grown⟩
      · rename_i ht
        go_round
        case rel => exact ⟨k + 1, by omega, by go_num, by rw [P.out]; congr 1; omega, by rw [S.out, T.out, if_neg (by omega), P.out]; congr 1; omega⟩
        case measure => simp [intOf]; omega
    · go_wp2
      go_ret
      exact ⟨ret_int (by rw [S.out, stg_end (by rw [lensOk_len L.out]; omega)]), by go_grown⟩

/-- The stage of a chamber at a step. -/
def atF (ch : Int) (xs : List Int) (c s : Int) : Int := stg xs ((s - c) % ch) 0

set_option maxHeartbeats 400000 in
theorem stageAt_any (ch : Int) (A : Option Addr) (n cp : Nat) (xs : List Int) (c s : Int) (w : World) (hA : Ints w A n xs) (hL : lensOk xs = true)
    (h6 : 6 ≤ ch) (h24 : ch ≤ 24) (hc0 : -1000 ≤ c) (hc1 : c ≤ 1000) (hs0 : -200000 ≤ s) (hs1 : s ≤ 200000) :
    Calls Tryd.prog 25 #[.agg #[.int .i64 ch, .slice A n cp], .int .i64 c, .int .i64 s] w fun e w' => e = .returned (.int .i64 (atF ch xs c s)) ∧ Below w.heap.size w w' := by
  have M := Lib.hid (mod_pos (a := s - c) (n := ch) (by omega))
  have b1 := Int.tmod_lt_of_pos (s - c) (b := ch) (by omega)
  have b2 := Int.lt_tmod_of_pos (s - c) (b := ch) (by omega)
  have b3 := Int.emod_nonneg (s - c) (b := ch) (by omega)
  have b4 := Int.emod_lt_of_pos (s - c) (b := ch) (by omega)
  have W1 := Lib.hid (IntWalk.i64_in (s - c) (by omega))
  have W2 := Lib.hid (IntWalk.i64_in ((s - c).tmod ch + ch) (by omega))
  have hz' : ¬ ch = 0 := by omega
  go_enter Tryd.func25, Tryd.ntmps25
  go_wp2
  go_region_held3 (fun w' => w'.cell? ⟨w.heap.size, 0, none⟩ = some (.int .i64 ch) ∧ w'.cell? ⟨w.heap.size, 1, none⟩ = some (.slice A n cp) ∧ w.heap.size < w'.heap.size ∧ Below w.heap.size w w')
      ((try refine ⟨?_, ?_, ?_, ?_⟩) <;> (first | go_keep | (go_grown; done) | (go_split_ands; first | exact (hb1.cell (p := ⟨_, _, none⟩) (by assumption)).trans (by assumption) | exact Nat.lt_of_lt_of_le (by assumption) hb1.size | exact bel_tr (by assumption) hb1)))
      ((go_at_call 29; rw [W1.out, W2.out, M.out]; refine (stageOf_any _ _ _ _ xs _ _ (hA.below (by first | (go_grown; done) | (go_split_ands; assumption))) hL (by omega) (by omega)).mono ?_; rintro e w1 ⟨rfl, hb1⟩))
  go_wp2
  go_ret
  exact ⟨ret_int rfl, (by first | (go_grown; done) | (go_split_ands; assumption))⟩
end Go.Proofs.YtnccooeaeomjfaaDoor
