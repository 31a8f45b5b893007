/- The contract of the program's StretchStage. -/
import Derived.Test.YtnccooeaeomjfaaK11
namespace Go.Proofs.Ytnccooeaeomjfaa
open Go.RowKit
set_option linter.unusedVariables false

theorem below_drew {B : Nat} {a w : World} (h : Below B a w) : Below B a w.drew := below_drewN h 1
set_option maxHeartbeats 2000000 in
theorem implStretchStage_any (ch : Int) (A : Option Addr) (n cp : Nat) (xs : List Int) (t : Int) (w : World) (hA : Ints w A n xs) :
    Calls Try.prog 27 #[.agg #[.int .i64 ch, .slice A n cp], .int .i64 t] w (KilnC (stretchN ch xs t) (stretchL ch xs t) (stretchC ch xs t) w) := by
  have HA := Lib.hid hA
  have hV := validKiln_any ch A n cp xs ((w.alloc (.cells #[.int .i64 ch, .slice A n cp] 27)).alloc (.cells #[.int .i64 0, .slice none 0 0] 27)) ((hA.alloc _).alloc _)
  rcases Bool.eq_false_or_eq_true (okB ch xs) with g1 | g1
  · obtain ⟨p6, p7, p8, _⟩ := okB_parts g1
    obtain rfl : n = 5 := by rw [← hA.len]; exact lensOk_len p8
    rw [g1] at hV
    have HV := Lib.hid hV; clear hV
    rcases Bool.eq_false_or_eq_true (inB t 1 5) with g2 | g2
    · obtain ⟨t1, t5⟩ := inB_true.1 g2
      obtain ⟨j, rfl⟩ : ∃ j : Nat, t = (j : Int) + 1 := ⟨(t - 1).toNat, by omega⟩
      have hj : j < 5 := by omega
      have hj' : ((j : Int) + 1 - 1).toNat = j := by omega
      have hbn := lensOk_nth p8 hj
      obtain ⟨x, g3⟩ : ∃ x, okB ch (bumpL xs j) = x := ⟨_, rfl⟩
      have E0 : stretchC ch xs ((j : Int) + 1) = if x = true then 0 else 5 := by rw [stretchC, if_pos g1, if_pos g2, hj', g3]
      have G1 := Lib.hid g1; have G2 := Lib.hid g2; have G3 := Lib.hid g3
      clear g1 g2 g3 hj' t1 t5
      have E : Hid (if x = true then stretchL ch xs ((j : Int) + 1) = bumpL xs j ∧ stretchN ch xs ((j : Int) + 1) = ch ∧ stretchC ch xs ((j : Int) + 1) = 0 else stretchL ch xs ((j : Int) + 1) = [] ∧ stretchN ch xs ((j : Int) + 1) = 0 ∧ stretchC ch xs ((j : Int) + 1) = 5) := by
        show ite _ _ _
        cases x
        · rw [if_neg (by simp)]; exact stretch_bad (by rw [E0]; rfl) (by omega)
        · rw [if_pos rfl]
          have := stretch_good (ch := ch) (xs := xs) (t := (j : Int) + 1) (by rw [E0]; rfl)
          rwa [show ((j : Int) + 1 - 1).toNat = j by omega] at this
      clear E0
      go_enter Try.func27, Try.ntmps27
      go_wp2_with fail
      refine HV.out.mono ?_; rintro e w1 ⟨rfl, hb1⟩
      have hz1 := hb1.size; simp only [World.size_alloc] at hz1
      have a0 : w1.cell? ⟨w.heap.size, 0, none⟩ = some (.int .i64 ch) := (hb1.cell (p := ⟨w.heap.size, 0, none⟩) (by simp; omega)).trans (by go_simp)
      have a1 : w1.cell? ⟨w.heap.size, 1, none⟩ = some (.slice A 5 cp) := (hb1.cell (p := ⟨w.heap.size, 1, none⟩) (by simp; omega)).trans (by go_simp)
      have b0 : w1.cell? ⟨w.heap.size + 1, 0, none⟩ = some (.int .i64 0) := (hb1.cell (p := ⟨w.heap.size + 1, 0, none⟩) (by simp)).trans (by go_simp)
      have b1 : w1.cell? ⟨w.heap.size + 1, 1, none⟩ = some (.slice none 0 0) := (hb1.cell (p := ⟨w.heap.size + 1, 1, none⟩) (by simp)).trans (by go_simp)
      have c0 : w1.frozen? ⟨w.heap.size + 1, 0, none⟩ = false := (hb1.frozen (p := ⟨w.heap.size + 1, 0, none⟩) (by simp)).trans (by go_simp)
      have c1 : w1.frozen? ⟨w.heap.size + 1, 1, none⟩ = false := (hb1.frozen (p := ⟨w.heap.size + 1, 1, none⟩) (by simp)).trans (by go_simp)
      have B1 : Below w.heap.size w w1 := Below.trans (((Below.refl w.heap.size w).alloc (Nat.le_refl _) _).alloc (by simp) _) (hb1.mono (by simp; omega))
      have HA1 := Lib.hid (HA.out.below B1)
      have hl0 : w.heap.size < w1.heap.size := by omega
      have hl1 : w.heap.size + 1 < w1.heap.size := by omega
      clear hb1
      go_upto_region 5 with (first | (go_at_call 46; refine (asB (within_any _ _ _ _) G2.out).mono ?_; rintro e w' ⟨rfl, rfl⟩))
      go_cut [6] (fun sa wx => ∃ o q cap, sa = .pointer (some ⟨o, 0, none⟩) ∧ OutK w1.heap.size ch 5 xs o q cap w1 wx)
      case first =>
        first | go_region_with ((go_at_call 59; refine (cloneInt_any _ _ _ xs _ (HA1.out.below (by first | exact Below.refl _ _ | exact below_drewN (Below.refl _ _) _ | exact below_drew (Below.refl _ _) | exact (below_drew (Below.refl _ _)).alloc (by simp) _ | exact (below_drewN (Below.refl _ _) _).alloc (by simp) _ | exact (Below.refl _ _).alloc (by simp) _)) (by omega)).mono ?_; rintro e v1 ⟨q, cap, rfl, hq1, hq2, hq3, hq4, hbv1⟩; have HQ3 := Lib.hid hq3; clear hq3; have HQ4 := Lib.hid hq4; clear hq4; obtain ⟨hcv1, hfv1⟩ := bcell hbv1; have k0 : v1.cell? ⟨w.heap.size, 0, none⟩ = some (.int .i64 ch) := (by rw [hcv1 _ _ (by first | (simp; done) | (simp; omega))]; go_simp); have hzv1 := hbv1.size; (try simp only [World.size_drewN, World.size_drew, World.size_alloc] at hzv1); (try simp only [World.size_drewN, World.size_drew, World.size_alloc] at hq1); have hlv0 : w.heap.size < v1.heap.size := (by have hh := hbv1.size; simp at hh; omega); have hlvq : q < v1.heap.size := (by exact hq2))) | fail
        all_goals
          go_wp2_with fail
          go_meet
          first
            | exact ⟨_, q, cap, rfl, OutK.call_first (by first | exact hbv1 | exact bel_tr (below_drew (Below.refl _ _)) hbv1 | exact bel_tr (below_drewN (Below.refl _ _) _) hbv1) (by simp at hq1; omega) hq2 HQ3.out HQ4.out⟩
            | (have T : Below (w1.alloc (.cells #[.int .i64 0, .slice none 0 0] 27)).heap.size (w1.alloc (.cells #[.int .i64 0, .slice none 0 0] 27)) v1 := (by first | exact hbv1 | exact bel_tr (below_drew (Below.refl _ _)) hbv1)
               obtain ⟨c0, c1, _, _⟩ := box_kept T rfl
               have T2 : Below w1.heap.size w1 v1 := bel_tr ((Below.refl _ _).alloc (Nat.le_refl _) _) T
               have T3 : w1.heap.size < q := (by simp at hq1; omega)
               exact ⟨_, q, cap, rfl, OutK.alloc_first T2 (Nat.le_refl _) c0 c1 T3 hq2 HQ3.out HQ4.out⟩)
      obtain ⟨o, q, cap, rfl, ho1, ho2, hq1, hq2, hne, k0, k1, hcs, hfs, hB⟩ := hcut
      obtain ⟨w2, rfl⟩ : ∃ u : World, u = wc := ⟨_, rfl⟩
      have hk : w2.cell? ⟨q, j, none⟩ = some (.int .i64 (nth xs j)) := by have := hcs j hj; rwa [Nat.zero_add] at this
      have hf := hfs j
      have CS := Lib.hid hcs; have FS := Lib.hid hfs
      have HB2 := Lib.hid hB
      have e0 : w2.cell? ⟨w.heap.size + 1, 0, none⟩ = some (.int .i64 0) := (hB.cell (p := ⟨w.heap.size + 1, 0, none⟩) hl1).trans b0
      have e1 : w2.cell? ⟨w.heap.size + 1, 1, none⟩ = some (.slice none 0 0) := (hB.cell (p := ⟨w.heap.size + 1, 1, none⟩) hl1).trans b1
      have g0 : w2.frozen? ⟨w.heap.size + 1, 0, none⟩ = false := (hB.frozen (p := ⟨w.heap.size + 1, 0, none⟩) hl1).trans c0
      have g1 : w2.frozen? ⟨w.heap.size + 1, 1, none⟩ = false := (hB.frozen (p := ⟨w.heap.size + 1, 1, none⟩) hl1).trans c1
      have hj0 : (j : Int) + 1 - 1 = j := by omega
      have L5 : xs.length = 5 := HA.out.len
      have hqn : q ≠ w.heap.size + 1 := by omega
      have hwo : w.heap.size + 1 < w2.heap.size := by omega
      clear hcs hfs hB
      have hI3 : Ints (w2.setCell ⟨q, j, none⟩ (.int .i64 (nth xs j + 1))) (some ⟨q, 0, none⟩) 5 (bumpL xs j) := Ints.of_cells (by rw [bumpL_len]; exact L5) (by omega) (by simpa [World.setCell] using hq2) (cells_bump L5 hj CS.out)
      have HI3 := Lib.hid hI3; clear hI3
      have HB3 : Below w.heap.size w (w2.setCell ⟨q, j, none⟩ (.int .i64 (nth xs j + 1))) := (Below.trans B1 (HB2.out.mono (by omega))).setCell (by show w.heap.size ≤ q; omega) _
      have k0' : (w2.setCell ⟨q, j, none⟩ (.int .i64 (nth xs j + 1))).cell? ⟨o, 0, none⟩ = some (.int .i64 ch) := by rw [World.cell?_setCell_other _ _ _ _ (by first | (simp; done) | (simp; omega))]; exact k0
      have k1' : (w2.setCell ⟨q, j, none⟩ (.int .i64 (nth xs j + 1))).cell? ⟨o, 1, none⟩ = some (.slice (some ⟨q, 0, none⟩) 5 cap) := by rw [World.cell?_setCell_other _ _ _ _ (by first | (simp; done) | (simp; omega))]; exact k1
      have e0' : (w2.setCell ⟨q, j, none⟩ (.int .i64 (nth xs j + 1))).cell? ⟨w.heap.size + 1, 0, none⟩ = some (.int .i64 0) := by rw [World.cell?_setCell_other _ _ _ _ (by first | (simp; done) | (simp; omega))]; exact e0
      have e1' : (w2.setCell ⟨q, j, none⟩ (.int .i64 (nth xs j + 1))).cell? ⟨w.heap.size + 1, 1, none⟩ = some (.slice none 0 0) := by rw [World.cell?_setCell_other _ _ _ _ (by first | (simp; done) | (simp; omega))]; exact e1
      have hV3 := validKiln_any ch (some ⟨q, 0, none⟩) 5 cap (bumpL xs j) _ HI3.out
      rw [G3.out] at hV3
      have HV3 := Lib.hid hV3; clear hV3
      have ho3 : o < (w2.setCell ⟨q, j, none⟩ (.int .i64 (nth xs j + 1))).heap.size := by simpa [World.setCell] using ho2
      have hwo3 : w.heap.size + 1 < (w2.setCell ⟨q, j, none⟩ (.int .i64 (nth xs j + 1))).heap.size := by simpa [World.setCell] using hwo
      have hq3 : q < (w2.setCell ⟨q, j, none⟩ (.int .i64 (nth xs j + 1))).heap.size := by simpa [World.setCell] using hq2
      have FS3 := Lib.hid (show ∀ i, (w2.setCell ⟨q, j, none⟩ (.int .i64 (nth xs j + 1))).frozen? ⟨q, i, none⟩ = false from fun i => by rw [World.frozen?_setCell]; exact FS.out i)
      have g0' : (w2.setCell ⟨q, j, none⟩ (.int .i64 (nth xs j + 1))).frozen? ⟨w.heap.size + 1, 0, none⟩ = false := by rw [World.frozen?_setCell]; exact g0
      have g1' : (w2.setCell ⟨q, j, none⟩ (.int .i64 (nth xs j + 1))).frozen? ⟨w.heap.size + 1, 1, none⟩ = false := by rw [World.frozen?_setCell]; exact g1
      go_wp2_with fail
      refine HV3.out.mono ?_; rintro e w3 ⟨rfl, hb3⟩
      have j0 := (hb3.cell (p := ⟨o, 0, none⟩) ho3).trans k0'
      have j1 := (hb3.cell (p := ⟨o, 1, none⟩) ho3).trans k1'
      have l0 := (hb3.cell (p := ⟨w.heap.size + 1, 0, none⟩) hwo3).trans e0'
      have l1 := (hb3.cell (p := ⟨w.heap.size + 1, 1, none⟩) hwo3).trans e1'
      have m0 := (hb3.frozen (p := ⟨w.heap.size + 1, 0, none⟩) hwo3).trans g0'
      have m1 := (hb3.frozen (p := ⟨w.heap.size + 1, 1, none⟩) hwo3).trans g1'
      have I3 := Lib.hid (HI3.out.below hb3)
      have B3 : Below w.heap.size w w3 := bel_tr HB3 hb3
      have hqq := Nat.lt_of_lt_of_le hq3 hb3.size
      have F3 := Lib.hid (show ∀ i, w3.frozen? ⟨q, i, none⟩ = false from fun i => (hb3.frozen (p := ⟨q, i, none⟩) hq3).trans (FS3.out i))
      clear hb3 k0' k1' e0' e1' g0' g1' k0 k1 e0 e1 g0 g1 a0 a1 b0 b1 c0 c1
      cases x
      · have EE := E.out; rw [if_neg (by decide)] at EE
        go_wp2_with fail
        refine bodyPost_ret (v := .tuple #[.agg #[.int .i64 0, .slice none 0 0], .int .i64 5]) (by simp [results, Try.results27, go_sem, l0, l1]) rfl ?_
        rw [EE.1, EE.2.1, EE.2.2]
        exact KilnC.none_ ((B3.setCell (by simp) _).setCell (by simp) _)
      · have EE := E.out; rw [if_pos rfl] at EE
        go_wp2_with fail
        refine bodyPost_ret (v := .tuple #[.agg #[.int .i64 ch, .slice (some ⟨q, 0, none⟩) 5 cap], .int .i64 0]) (by simp [results, Try.results27, go_sem, l0, l1]) rfl ?_
        rw [EE.1, EE.2.1, EE.2.2]
        exact ⟨_, _, _, rfl, (I3.out.far hqn _).far hqn _, Fz.mk_ (fun i => by rw [World.frozen?_setCell, World.frozen?_setCell]; exact F3.out i),
          fun a e => by
            simp only [Option.some.injEq] at e
            subst e
            exact ⟨by show w.heap.size ≤ q; omega, by show q < _; simpa [World.setCell] using hqq⟩, (B3.setCell (by simp) _).setCell (by simp) _⟩
    · have E := Lib.hid (stretch_bad (ch := ch) (xs := xs) (t := t) (c := 2) (by rw [stretchC, if_pos g1, if_neg (by simp [g2])]) (by omega))
      have G2 := Lib.hid g2
      clear g1 g2
      go_enter Try.func27, Try.ntmps27
      go_wp2_with fail
      refine HV.out.mono ?_; rintro e w1 ⟨rfl, hb1⟩
      have b0 : w1.cell? ⟨w.heap.size + 1, 0, none⟩ = some (.int .i64 0) := (hb1.cell (p := ⟨w.heap.size + 1, 0, none⟩) (by simp)).trans (by go_simp)
      have b1 : w1.cell? ⟨w.heap.size + 1, 1, none⟩ = some (.slice none 0 0) := (hb1.cell (p := ⟨w.heap.size + 1, 1, none⟩) (by simp)).trans (by go_simp)
      have c0 : w1.frozen? ⟨w.heap.size + 1, 0, none⟩ = false := (hb1.frozen (p := ⟨w.heap.size + 1, 0, none⟩) (by simp)).trans (by go_simp)
      have c1 : w1.frozen? ⟨w.heap.size + 1, 1, none⟩ = false := (hb1.frozen (p := ⟨w.heap.size + 1, 1, none⟩) (by simp)).trans (by go_simp)
      have B1 : Below w.heap.size w w1 := Below.trans (((Below.refl w.heap.size w).alloc (Nat.le_refl _) _).alloc (by simp) _) (hb1.mono (by simp; omega))
      clear hb1
      go_wp2_with (first | (go_at_call 46; refine (asB (within_any _ _ _ _) G2.out).mono ?_; rintro e w' ⟨rfl, rfl⟩))
      refine bodyPost_ret (v := .tuple #[.agg #[.int .i64 0, .slice none 0 0], .int .i64 2]) (by simp [results, Try.results27, go_sem, b0, b1]) rfl ?_
      rw [E.out.1, E.out.2.1, E.out.2.2]
      exact KilnC.none_ ((B1.setCell (by simp) _).setCell (by simp) _)
  · have E := Lib.hid (stretch_bad (ch := ch) (xs := xs) (t := t) (c := 1) (by rw [stretchC, if_neg (by simp [g1])]) (by omega))
    rw [g1] at hV
    have HV := Lib.hid hV; clear hV
    clear g1
    go_enter Try.func27, Try.ntmps27
    go_wp2_with fail
    refine HV.out.mono ?_; rintro e w1 ⟨rfl, hb1⟩
    have b0 : w1.cell? ⟨w.heap.size + 1, 0, none⟩ = some (.int .i64 0) := (hb1.cell (p := ⟨w.heap.size + 1, 0, none⟩) (by simp)).trans (by go_simp)
    have b1 : w1.cell? ⟨w.heap.size + 1, 1, none⟩ = some (.slice none 0 0) := (hb1.cell (p := ⟨w.heap.size + 1, 1, none⟩) (by simp)).trans (by go_simp)
    have c0 : w1.frozen? ⟨w.heap.size + 1, 0, none⟩ = false := (hb1.frozen (p := ⟨w.heap.size + 1, 0, none⟩) (by simp)).trans (by go_simp)
    have c1 : w1.frozen? ⟨w.heap.size + 1, 1, none⟩ = false := (hb1.frozen (p := ⟨w.heap.size + 1, 1, none⟩) (by simp)).trans (by go_simp)
    have B1 : Below w.heap.size w w1 := Below.trans (((Below.refl w.heap.size w).alloc (Nat.le_refl _) _).alloc (by simp) _) (hb1.mono (by simp; omega))
    clear hb1
    go_wp2_with fail
    refine bodyPost_ret (v := .tuple #[.agg #[.int .i64 0, .slice none 0 0], .int .i64 1]) (by simp [results, Try.results27, go_sem, b0, b1]) rfl ?_
    rw [E.out.1, E.out.2.1, E.out.2.2]
    exact KilnC.none_ ((B1.setCell (by simp) _).setCell (by simp) _)
end Go.Proofs.Ytnccooeaeomjfaa
