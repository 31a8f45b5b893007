/- The contracts of StepsUntil, the reference's and the program's. -/
import Derived.Test.YtnccooeaeomjfaaK4
namespace Go.Proofs.Ytnccooeaeomjfaa
open Go.RowKit
set_option linter.unusedVariables false

/-- The phase in which a stage begins. -/
def firstF (xs : List Int) (t : Int) : Int := psum xs (if t = 0 then 5 else (t - 1).toNat)
def stepsF (ch : Int) (xs : List Int) (c s t : Int) : Int × Int :=
  if codeF ch xs c s t = 0 then (if firstF xs t = ch then (0, 3) else ((firstF xs t - (s - c)) % ch, 0)) else (0, codeF ch xs c s t)

theorem psum_mono {xs : List Int} (h : lensOk xs = true) : ∀ {k : Nat}, k ≤ 5 → psum xs k ≤ psum xs 5 := by
  intro k hk
  have hl := lensOk_len h
  have s0 := psum_succ (xs := xs) (k := 0) (by omega)
  have s1 := psum_succ (xs := xs) (k := 1) (by omega)
  have s2 := psum_succ (xs := xs) (k := 2) (by omega)
  have s3 := psum_succ (xs := xs) (k := 3) (by omega)
  have s4 := psum_succ (xs := xs) (k := 4) (by omega)
  have n0 := lensOk_nth h (k := 0) (by omega)
  have n1 := lensOk_nth h (k := 1) (by omega)
  have n2 := lensOk_nth h (k := 2) (by omega)
  have n3 := lensOk_nth h (k := 3) (by omega)
  have n4 := lensOk_nth h (k := 4) (by omega)
  simp only [Nat.zero_add, Nat.reduceAdd] at s0 s1 s2 s3 s4
  match k, hk with
  | 0, _ => omega
  | 1, _ => omega
  | 2, _ => omega
  | 3, _ => omega
  | 4, _ => omega
  | 5, _ => omega

set_option maxHeartbeats 1000000 in
theorem specStepsUntil_any (ch : Int) (A : Option Addr) (n cp : Nat) (xs : List Int) (c s t : Int) (w : World) (hA : Ints w A n xs) :
    Calls Try.prog 18 #[.agg #[.int .i64 ch, .slice A n cp], .int .i64 c, .int .i64 s, .int .i64 t] w (Two (stepsF ch xs c s t) w) := by
  have hK : KAt (w.alloc (.cells #[.int .i64 ch, .slice A n cp] 27)) w.heap.size ch A n cp xs := ⟨by simp, by go_simp, by go_simp, hA.alloc _⟩
  by_cases g : codeF ch xs c s t = 0
  · have E := Lib.hid (show stepsF ch xs c s t = (if firstF xs t = ch then (0, 3) else ((firstF xs t - (s - c)) % ch, 0)) by rw [stepsF, if_pos g])
    obtain ⟨p1, ⟨p2, p3⟩, ⟨p4, p5⟩, ⟨p9, p10⟩⟩ := codeF_zero g
    obtain ⟨p6, p7, p8, p11⟩ := okB_parts p1
    have G := Lib.hid g; clear g
    have P8 := Lib.hid p8
    have hl5 := lensOk_len p8
    obtain rfl : n = 5 := by rw [← hA.len]; exact hl5
    have L5 := Lib.hid hl5
    clear p1 p8 hl5
    go_enter Try.func18, Try.ntmps18
    go_wp2_with (go_at_call 49; refine (l17Code_any _ _ _ _ hK).mono ?_; rw [G.out]; rintro e w' ⟨rfl, q, rfl⟩)
    have hK' : KAt ((w.alloc (.cells #[.int .i64 ch, .slice A 5 cp] 27)).drewN q) w.heap.size ch A 5 cp xs := hK.below (below_drewN (Below.refl _ _) _)
    clear hK
    go_loop [11, 12] (fun f i => ∃ k : Nat, k ≤ 5 ∧ i = .int .i64 (↑k + 1) ∧ f = .int .i64 (psum xs k) ∧ (t = 0 ∨ (k : Int) < t)) (fun _ i => 7 - (intOf i).toNat)
    case atStart => exact ⟨0, Nat.zero_le _, rfl, by rw [psum_zero], by omega⟩
    case round =>
      obtain ⟨k, hk, rfl, rfl, ht⟩ := hrel
      have b1 := psum_bound P8.out k hk
      by_cases hlt : k < 5 ∧ ¬ (k : Int) + 1 = t
      · obtain ⟨hlt, hnt⟩ := hlt
        obtain ⟨b', off, rfl, hb, hc⟩ := hK'.ints.cell (by omega)
        have hck := hc k hlt
        have hc1 := hK'.c1
        have b2 := lensOk_nth P8.out hlt
        have P := Lib.hid (psum_succ (xs := xs) (k := k) (by rw [L5.out]; exact hlt))
        have hd : (((k : Int) + 1) != t) = true := by simpa using hnt
        clear hc hnt
        go_wp2
        go_round
        case rel => exact ⟨k + 1, by omega, by go_num, by rw [P.out], by have := bne_iff_ne.1 hd; omega⟩
        case measure => simp [intOf]; omega
      · have hf : firstF xs t = psum xs k := by
          rw [firstF]
          congr 1
          split
          · omega
          · omega
        have HF := Lib.hid hf; clear hf
        have hc0 := hK'.c0
        have pm : psum xs k ≤ psum xs 5 := psum_mono P8.out hk
        by_cases hk5 : k = 5
        · have ht0 : (6 : Int) ≤ k + 1 := by omega
          clear hlt hk5
          go_wp2_with (go_at_call 50; refine (l14Mod_any _ _ _ (by omega) (by omega) (by omega) (by omega)).mono ?_; rintro e w' ⟨rfl, rfl⟩)
          · go_ret2
            exact Two.mk (by rw [E.out, HF.out, if_pos (by omega)]) (below_drewN (by go_grown) _)
          · go_ret2
            exact Two.mk (by rw [E.out, HF.out, if_neg (by omega)]) (below_drewN (by go_grown) _)
        · obtain rfl : (k : Int) + 1 = t := by omega
          have hd : (((k : Int) + 1) != (k : Int) + 1) = false := by simp
          clear hlt hk5
          go_wp2_with (go_at_call 50; refine (l14Mod_any _ _ _ (by omega) (by omega) (by omega) (by omega)).mono ?_; rintro e w' ⟨rfl, rfl⟩)
          · go_ret2
            exact Two.mk (by rw [E.out, HF.out, if_pos (by omega)]) (below_drewN (by go_grown) _)
          · go_ret2
            exact Two.mk (by rw [E.out, HF.out, if_neg (by omega)]) (below_drewN (by go_grown) _)
  · have E := Lib.hid (show stepsF ch xs c s t = (0, codeF ch xs c s t) by rw [stepsF, if_neg g])
    have g' : (codeF ch xs c s t != 0) = true := by simpa using g
    clear g
    go_enter Try.func18, Try.ntmps18
    go_wp2_with (go_at_call 49; refine (l17Code_any _ _ _ _ hK).mono ?_; rintro e w' ⟨rfl, q, rfl⟩)
    go_ret2
    exact Two.mk E.out (below_drewN (by go_grown) _)

theorem Ints.take {w : World} {A : Option Addr} {n k : Nat} {xs : List Int} (h : Ints w A n xs) (hk : k ≤ n) : Ints w A k (xs.take k) :=
  ⟨by rw [List.length_take, h.len]; omega, by have := h.bound; omega, fun hn => by
    obtain ⟨b, off, e, hb, hc⟩ := h.cell (by omega)
    refine ⟨b, off, e, hb, fun j hj => ?_⟩
    rw [hc j (by omega)]
    simp [nth, List.getD_eq_getElem?_getD, hj]⟩

set_option maxHeartbeats 1000000 in
theorem implStepsUntil_any (ch : Int) (A : Option Addr) (n cp : Nat) (xs : List Int) (c s t : Int) (w : World) (hA : Ints w A n xs) (hcp : n ≤ cp) :
    Calls Try.prog 19 #[.agg #[.int .i64 ch, .slice A n cp], .int .i64 c, .int .i64 s, .int .i64 t] w (Two (stepsF ch xs c s t) w) := by
  by_cases g : codeF ch xs c s t = 0
  · have E := Lib.hid (show stepsF ch xs c s t = (if firstF xs t = ch then (0, 3) else ((firstF xs t - (s - c)) % ch, 0)) by rw [stepsF, if_pos g])
    obtain ⟨p1, ⟨p2, p3⟩, ⟨p4, p5⟩, ⟨p9, p10⟩⟩ := codeF_zero g
    obtain ⟨p6, p7, p8, p11⟩ := okB_parts p1
    have G := Lib.hid g; clear g
    have P8 := Lib.hid p8
    have hl5 := lensOk_len p8
    obtain rfl : n = 5 := by rw [← hA.len]; exact hl5
    have L5 := Lib.hid hl5
    have S5 := Lib.hid (sumL_all p8)
    clear p1 p8 hl5
    obtain ⟨k, hk, hks, hkt⟩ : ∃ k : Nat, k ≤ 5 ∧ firstF xs t = psum xs k ∧ k = (if t = 0 then 5 else (t - 1).toNat) := ⟨_, by split <;> omega, rfl, rfl⟩
    have b1 := psum_bound P8.out k hk
    have b5 := psum_bound P8.out 5 (Nat.le_refl _)
    have FK := Lib.hid hks; clear hks
    have H1 := kilnCode_any ch A 5 cp xs c s t (w.alloc (.cells #[.int .i64 ch, .slice A 5 cp] 27)) (hA.alloc _)
    rw [G.out] at H1
    have H1' := Lib.hid H1; clear H1
    have hz' : ¬ ch = 0 := by omega
    have M := Lib.hid (mod_pos' (a := psum xs k - s + c) (n := ch) (by omega))
    have m1 := Int.tmod_lt_of_pos (psum xs k - s + c) (b := ch) (by omega)
    have m2 := Int.lt_tmod_of_pos (psum xs k - s + c) (b := ch) (by omega)
    by_cases ht0 : t = 0
    · obtain rfl : k = 5 := by rw [ht0] at hkt; simpa using hkt
      subst ht0
      clear hkt
      go_enter Try.func19, Try.ntmps19
      go_wp2_with fail
      (refine (H1'.out).mono ?_; rintro e w1 ⟨rfl, hb1⟩; obtain ⟨hc1, hf1⟩ := bcell hb1; have hz1 := hb1.size; (try simp only [World.size_alloc] at hz1); (try simp only [World.size_setCell] at hz1); (try simp only [World.size_drew] at hz1); (try have L1 : w.heap.size < w1.heap.size := by omega); have B1 : Below w.heap.size w w1 := bel_tr (by first | (go_grown; done) | (go_split_ands; assumption)) hb1)
      go_wp2_with fail
      refine (sumOf_any _ _ _ xs _ (hA.below (by first | (go_grown; done) | (go_split_ands; assumption)))).mono ?_; rw [S5.out]; rintro e w' ⟨rfl, rfl⟩
      go_wp2_with fail
      · have HQ := Lib.hid (show (psum xs _ == ch) = true by assumption)
        go_ret2
        exact Two.mk (by rw [E.out, FK.out, if_pos (by simpa using HQ.out)]) B1
      · have HQ := Lib.hid (show (psum xs _ == ch) = false by assumption)
        have c0 : w1.cell? ⟨w.heap.size, 0, none⟩ = some (.int .i64 ch) := by go_simp
        clear hc1 hf1
        go_quiet (fail)
        go_wp2
        go_ret2
        exact Two.mk (by rw [E.out, FK.out, if_neg (by simpa using HQ.out), M.out]; congr 2; omega) (below_drewN B1 _)
    · obtain rfl : t = k + 1 := by rw [if_neg ht0] at hkt; omega
      have SK := Lib.hid (sumL_take P8.out k hk)
      clear hkt ht0
      go_enter Try.func19, Try.ntmps19
      go_wp2_with fail
      (refine (H1'.out).mono ?_; rintro e w1 ⟨rfl, hb1⟩; obtain ⟨hc1, hf1⟩ := bcell hb1; have hz1 := hb1.size; (try simp only [World.size_alloc] at hz1); (try simp only [World.size_setCell] at hz1); (try simp only [World.size_drew] at hz1); (try have L1 : w.heap.size < w1.heap.size := by omega); have B1 : Below w.heap.size w w1 := bel_tr (by first | (go_grown; done) | (go_split_ands; assumption)) hb1)
      go_wp2_with fail
      refine (sumOf_any _ _ _ xs _ (hA.below (by first | (go_grown; done) | (go_split_ands; assumption)))).mono ?_; rw [S5.out]; rintro e w' ⟨rfl, rfl⟩
      go_wp2_with fail
      refine (sumOf_any _ _ _ (xs.take k) _ ((hA.take hk).below (by first | (go_grown; done) | (go_split_ands; assumption)))).mono ?_; rw [SK.out]; rintro e w' ⟨rfl, rfl⟩
      go_wp2_with fail
      · have HQ := Lib.hid (show (psum xs _ == ch) = true by assumption)
        go_ret2
        exact Two.mk (by rw [E.out, FK.out, if_pos (by simpa using HQ.out)]) B1
      · have HQ := Lib.hid (show (psum xs _ == ch) = false by assumption)
        have c0 : w1.cell? ⟨w.heap.size, 0, none⟩ = some (.int .i64 ch) := by go_simp
        clear hc1 hf1
        go_quiet (fail)
        go_wp2
        go_ret2
        exact Two.mk (by rw [E.out, FK.out, if_neg (by simpa using HQ.out), M.out]; congr 2; omega) (below_drewN B1 _)
  · have E := Lib.hid (show stepsF ch xs c s t = (0, codeF ch xs c s t) by rw [stepsF, if_neg g])
    have g' : (codeF ch xs c s t != 0) = true := by simpa using g
    clear g
    go_enter Try.func19, Try.ntmps19
    go_wp2_with fail
    (refine (kilnCode_any _ _ _ _ xs _ _ _ _ (hA.below (by first | (go_grown; done) | (go_split_ands; assumption)))).mono ?_; rintro e w1 ⟨rfl, hb1⟩; obtain ⟨hc1, hf1⟩ := bcell hb1; have hz1 := hb1.size; (try simp only [World.size_alloc] at hz1); (try simp only [World.size_setCell] at hz1); (try simp only [World.size_drew] at hz1); (try have L1 : w.heap.size < w1.heap.size := by omega); have B1 : Below w.heap.size w w1 := bel_tr (by first | (go_grown; done) | (go_split_ands; assumption)) hb1)
    go_wp2_with fail
    go_ret2
    exact Two.mk E.out B1
end Go.Proofs.Ytnccooeaeomjfaa
