/- FnFires returns true for every input, and each argument reads afterwards as it read before. No condition. -/
import Derived.Test.YtnccooeaeomjfaaBp
import Derived.Test.YtnccooeaeomjfaaLA
import Derived.Test.YtnccooeaeomjfaaAK
import Derived.Test.YtnccooeaeomjfaaKF3
import Derived.Test.YtnccooeaeomjfaaKL3
import Derived.Test.YtnccooeaeomjfaaK12
namespace Go.Proofs.Ytnccooeaeomjfaa.lawFnFires
open Go.ChangeShapes Go.WideShapes Go.ChangeAt Go.RowKit Go.Joins
open Go.ChangeMaps (open_string shut_string)
set_option linter.unusedVariables false

theorem own : ownKnob Try.prog.godebug = none := by kernel_rfl
theorem laidOut : laidOutB Try.prog = true := by kernel_rfl

set_option maxRecDepth 100000 in
set_option maxHeartbeats 8000000 in
theorem walk (A0 : Option Addr) (n0 c0 : Nat) (A1 : Option Addr) (n1 c1 : Nat) (w : World) (hR0 : BysRaw w A0 n0) (hR1 : BysRaw w A1 n1) :
    Calls Try.prog 12 #[.slice A0 n0 c0, .slice A1 n1 c1] w fun e w' => e = .returned (.bool true) ∧ Below w.heap.size w w' := by
  have hbd0 := hR0.1
  have hbd1 := hR1.1
  by_cases hbig : (3000 : Int) < n0 ∨ (3000 : Int) < n1
  · go_enter Try.func12, Try.ntmps12
    go_wp2_with fail
    refine (long_yes _ _ _ _ _ _ _ hbd0 hbd1 hbig).mono ?_; rintro e w' ⟨rfl, rfl⟩
    go_wp2_with fail
    go_ret
    exact ⟨rfl, by go_grown⟩
  · have hs0 : ¬ (3000 : Int) < n0 := fun h => hbig (.inl h)
    have hs1 : ¬ (3000 : Int) < n1 := fun h => hbig (.inr h)
    have HB0 := Lib.hid (hR0.bys (by omega))
    have HB1 := Lib.hid (hR1.bys (by omega))
    clear hbig hR0 hR1
    go_enter Try.func12, Try.ntmps12
    go_wp2_with fail
    refine (long_no _ _ _ _ _ _ _ (by omega) (by omega)).mono ?_; rintro e w' ⟨rfl, rfl⟩
    go_wp2_with fail
    refine (a2Kiln_any A0 n0 c0 _ HB0.out).mono ?_; rintro e w1 ⟨ch, q, cap, xs, rfl, hok, hI, hcap, B1⟩
    have A1w : Below w1.heap.size w1 (w1.alloc (.cells #[.int .i64 ch, .slice (some ⟨q, 0, none⟩) 5 cap] 27)) := (Below.refl _ _).alloc (Nat.le_refl _) _
    have BB := bel_tr B1 A1w
    have HB1' := Lib.hid (HB1.out.below BB)
    have KB := Lib.hid (KBox.new w1 ch (some ⟨q, 0, none⟩) 5 cap 27)
    have HI := Lib.hid (hI.below A1w)
    have HOK := Lib.hid hok
    obtain ⟨h6, h24, _, _⟩ := okB_parts hok
    clear hI hok
    obtain ⟨_, k0, k1⟩ := KB.out
    go_wp2_with fail
    refine (a2At_any A1 n1 c1 0 200 _ HB1'.out (by omega) (by omega) (by omega) (by omega)).mono ?_; rintro e w' ⟨x, rfl, hx0, hx1, rfl⟩
    go_wp2_with fail
    refine (a2At_any A1 n1 c1 1 ch _ HB1'.out (by omega) (by omega) (by omega) (by omega)).mono ?_; rintro e w' ⟨y, rfl, hy0, hy1, rfl⟩
    go_wp2_with fail
    refine (a2At_any A1 n1 c1 2 5 _ HB1'.out (by omega) (by omega) (by omega) (by omega)).mono ?_; rintro e w' ⟨z, rfl, hz0, hz1, rfl⟩
    obtain ⟨N, b, hN0, hN1, hs, hnow, hbef, hbn⟩ := fires_steps HOK.out hx0 hx1 hy0 hy1 hz0 hz1
    obtain ⟨g, r, ga, gb, hg, hg0, hg1, hr, hr0, hr1, ⟨o, hro, hgo⟩, hra, hrb⟩ := fires_ring HOK.out
    have H1 := implStepsUntil_any ch (some ⟨q, 0, none⟩) 5 cap xs y (1 + x) (1 + z) _ HI.out hcap
    rw [hs] at H1
    have H1 := Lib.hid H1
    have Hnow := Lib.hid hnow; have Hbef := Lib.hid hbef; have Hg := Lib.hid hg; have Hr := Lib.hid hr; have Hro := Lib.hid hro; have Hra := Lib.hid hra
    clear hs hnow hbef hg hr hro hra
    go_wp2_with fail
    refine H1.out.mono ?_; rintro e w2 ⟨rfl, hb2⟩
    have KB2 := Lib.hid (KB.out.below hb2)
    have HI2 := Lib.hid (HI.out.below hb2)
    have B2 := bel_tr BB hb2
    clear k0 k1 hb2 H1
    obtain ⟨_, k0, k1⟩ := KB2.out
    have H2 := specStageAt_any ch (some ⟨q, 0, none⟩) 5 cap xs y (1 + x + N) _ HI2.out
    rw [Hnow.out] at H2
    have H2 := Lib.hid H2
    have hN2 : ¬ N < 0 := by omega
    have hN3 : ¬ N ≥ ch := by omega
    go_wp2_with fail
    refine H2.out.mono ?_; rintro e w3 ⟨rfl, hb3⟩
    have KB3 := Lib.hid (KB2.out.below hb3)
    have HI3 := Lib.hid (HI2.out.below hb3)
    have B3 := bel_tr B2 hb3
    clear k0 k1 hb3 H2
    obtain ⟨_, k0, k1⟩ := KB3.out
    have H3 := specStageAt_any ch (some ⟨q, 0, none⟩) 5 cap xs y (1 + x + N - 1) _ HI3.out
    rw [Hbef.out] at H3
    have H3 := Lib.hid H3
    go_wp2_with fail
    refine H3.out.mono ?_; rintro e w4 ⟨rfl, hb4⟩
    have KB4 := Lib.hid (KB3.out.below hb4)
    have HI4 := Lib.hid (HI3.out.below hb4)
    have B4 := bel_tr B3 hb4
    clear k0 k1 hb4 H3
    obtain ⟨_, k0, k1⟩ := KB4.out
    have H4 := implFireGap_any ch (some ⟨q, 0, none⟩) 5 cap xs _ HI4.out
    rw [Hg.out] at H4
    have H4 := Lib.hid H4
    have hbn2 : (b == 1 + z) = false := by simpa using hbn
    go_wp2_with fail
    refine H4.out.mono ?_; rintro e w5 ⟨rfl, hb5⟩
    have KB5 := Lib.hid (KB4.out.below hb5)
    have HI5 := Lib.hid (HI4.out.below hb5)
    have B5 := bel_tr B4 hb5
    clear k0 k1 hb5 H4
    obtain ⟨_, k0, k1⟩ := KB5.out
    have H5 := implRingFor_any (some ⟨q, 0, none⟩) 5 cap xs g _ HI5.out
    rw [Hr.out] at H5
    have H5 := Lib.hid H5
    go_wp2_with fail
    refine H5.out.mono ?_; rintro e w6 ⟨rfl, hb6⟩
    have KB6 := Lib.hid (KB5.out.below hb6)
    have HI6 := Lib.hid (HI5.out.below hb6)
    have B6 := bel_tr B5 hb6
    clear k0 k1 hb6 H5
    obtain ⟨_, k0, k1⟩ := KB6.out
    have H6 := implFireGap_any r (some ⟨q, 0, none⟩) 5 cap xs _ HI6.out
    rw [Hro.out] at H6
    have H6 := Lib.hid H6
    have hg2 : ¬ g < 1 := by omega
    have hr2 : ¬ r < 1 := by omega
    have hr3 : ¬ r > ch := by omega
    go_wp2_with fail
    refine H6.out.mono ?_; rintro e w7 ⟨rfl, hb7⟩
    have KB7 := Lib.hid (KB6.out.below hb7)
    have HI7 := Lib.hid (HI6.out.below hb7)
    have B7 := bel_tr B6 hb7
    clear k0 k1 hb7 H6
    obtain ⟨_, k0, k1⟩ := KB7.out
    have H7 := implFireGap_any (r - 1) (some ⟨q, 0, none⟩) 5 cap xs _ HI7.out
    rw [Hra.out] at H7
    have H7 := Lib.hid H7
    go_wp2_with fail
    refine H7.out.mono ?_; rintro e w8 ⟨rfl, hb8⟩
    have KB8 := Lib.hid (KB7.out.below hb8)
    have HI8 := Lib.hid (HI7.out.below hb8)
    have B8 := bel_tr B7 hb8
    clear k0 k1 hb8 H7
    obtain ⟨_, k0, k1⟩ := KB8.out
    have H8 := implStretchStage_any ch (some ⟨q, 0, none⟩) 5 cap xs (1 + z) _ HI8.out
    have hst := fires_stretch HOK.out hz0 hz1
    rcases hst with ⟨L, s1, s2, s3, s4, s5, s6, s7, s8⟩ | ⟨s1, s2, s3⟩
    · rw [s1, s2, s3] at H8
      have H8 := Lib.hid H8
      have S4 := Lib.hid s4; have S5 := Lib.hid s5; have S6 := Lib.hid s6
      clear s1 s2 s3 s4 s5 s6
      go_wp2_with fail
      refine H8.out.mono ?_; rintro e w9 ⟨Q9, q9, d9, rfl, hL9, _, _, hb9⟩
      have A9 : Below w9.heap.size w9 (w9.alloc (.cells #[.int .i64 ch, .slice Q9 q9 d9] 27)) := (Below.refl _ _).alloc (Nat.le_refl _) _
      have B9 := bel_tr (bel_tr B8 hb9) A9
      have KB9 := Lib.hid ((KB8.out.below hb9).below A9)
      have HI9 := Lib.hid ((HI8.out.below hb9).below A9)
      have KL9 := Lib.hid (KBox.new w9 ch Q9 q9 d9 27)
      have hq9 : q9 = 5 := by rw [← hL9.len]; exact S5.out
      subst hq9
      have HL9 := Lib.hid (hL9.below A9)
      clear k0 k1 hb9 hL9 H8
      obtain ⟨hk9, k0, k1⟩ := KB9.out
      obtain ⟨hl9, l0, l1⟩ := KL9.out
      have hw : IntKind.i64.wrap (sumL xs + 1) = sumL xs + 1 := IntWalk.i64_in _ (by omega)
      have hne : (sumL xs + 1 != sumL xs + 1) = false := by simp
      go_wp2_with fail
      clear KB KB2 KB3 KB4 KB5 KB6 KB7 KB8 HI HI2 HI3 HI4 HI5 HI6 HI7 HI8 KB9 KL9 A9 A1w HB0 HB1 HB1' HOK Hnow Hbef Hg Hr Hro Hra BB B1 B2 B3 B4 B5 B6 B7 B8 hbn hbn2 hN2 hN3 hg2 hr2 hr3 hcap
      generalize w9.alloc (.cells #[.int .i64 ch, .slice Q9 5 d9] 27) = W at *
      go_region_held3 (fun w' => w'.cell? ⟨w1.heap.size, 1, none⟩ = some (.slice (some ⟨q, 0, none⟩) 5 cap) ∧ w'.cell? ⟨w9.heap.size, 0, none⟩ = some (.int .i64 ch) ∧ w'.cell? ⟨w9.heap.size, 1, none⟩ = some (.slice Q9 5 d9) ∧ w9.heap.size < w'.heap.size ∧ w1.heap.size < w'.heap.size ∧ Below W.heap.size W w')
        ((try refine ⟨?_, ?_, ?_, ?_, ?_, ?_⟩) <;> (first | go_keep | (go_grown; done) | (go_split_ands; first | exact (hb1.cell (p := ⟨_, _, none⟩) (by assumption)).trans (by assumption) | exact Nat.lt_of_lt_of_le (by assumption) hb1.size | exact bel_tr (by assumption) hb1)))
        (first
          | (go_at_call 43
             (first | ((with_reducible refine (a2Sum_any Q9 5 d9 L _ (HL9.out.below (by first | (go_grown; done) | (go_split_ands; assumption)))).mono ?_); rw [S6.out]) | (with_reducible refine (a2Sum_any (some ⟨q, 0, none⟩) 5 cap xs _ (HI9.out.below (by first | (go_grown; done) | (go_split_ands; assumption)))).mono ?_))
             rintro e w' ⟨rfl, rfl⟩)
          | (go_at_call 14
             refine (asB (specValidKiln_any ch Q9 5 d9 L _ (HL9.out.below (by first | (go_grown; done) | (go_split_ands; assumption)))) S4.out).mono ?_
             rintro e w' ⟨rfl, hb1⟩))
      go_split_ands
      rename Below W.heap.size W _ => hbw
      rcases hrb with rfl | ⟨rfl, hga⟩
      all_goals
        go_wp2_with fail
        go_ret
        exact ⟨rfl, bel_tr B9 hbw⟩
    · rw [s1, s2, s3] at H8
      have H8 := Lib.hid H8
      clear s1 s2 s3
      go_wp2_with fail
      refine H8.out.mono ?_; rintro e w9 ⟨Q9, q9, d9, rfl, hL9, _, _, hb9⟩
      have A9 : Below w9.heap.size w9 (w9.alloc (.cells #[.int .i64 0, .slice Q9 q9 d9] 27)) := (Below.refl _ _).alloc (Nat.le_refl _) _
      have B9 := bel_tr (bel_tr B8 hb9) A9
      clear k0 k1 hb9 hL9 H8
      go_wp2_with fail
      rcases hrb with rfl | ⟨rfl, hga⟩
      all_goals
        go_quiet (fail)
        go_wp2_with fail
        go_ret
        exact ⟨rfl, by first | exact below_drewN B9 _ | exact B9⟩

set_option maxRecDepth 100000 in
theorem lifted (os : Os) (started : os.Started) (H : Type) (enc : TypeId × Value → H) :
    ReturnsInHanded {} Try.checked os 12 .any (Rows.fnFiresSpec.pre6 enc Try.prog Try.f12 Rows.fnFiresRow.domain false) (Rows.fnFiresSpec.post enc Try.prog Try.f12 false true false false) := by
  refine returnsInHanded_of_change (C := Try.checked) own started (by kernel_rfl) Try.func12
    (ChangeSpec.witness6 (enc := enc) (C := Try.checked) false ⟨#[], #[.slice none 0 0, .slice none 0 0], []⟩ 8 (by kernel_rfl) (by kernel_rfl) (by kernel_rfl) (by kernel_rfl)) ?_
  intro W base args ds gs before hval0 hW hcnd _
  have hval : ∀ (j : Nat) t v, Try.f12.params[j]? = some t → args[j]? = some v → Value.okWide Try.prog W .any base t v := hval0
  have hW' := hW
  obtain ⟨p, q, hA0, hV, rfl, hfz, hnd⟩ := hW
  have hA : DataW.TrodAll enc Try.prog W 0 (fun _ => true) true Try.f12.params.toList args.toList ds p := hA0
  rw [Try.params12] at hA hval
  obtain ⟨v0, vs0, d0, ds0, p0, q0, hargs, rfl, rfl, h0, r0⟩ := trodAll_cons hA
  obtain ⟨v1, vs1, d1, ds1, p1, q1, rfl, rfl, rfl, h1, r1⟩ := trodAll_cons r0
  obtain ⟨rfl, rfl, rfl⟩ := trodAll_nil r1
  obtain rfl : args = #[v0, v1] := by cases args; simp_all
  obtain ⟨rfl, rfl⟩ := trodVars_none hV
  have t0 := h0
  have lt0 : ∀ x ∈ p0, x.block < W.heap.size := by obtain ⟨m, hm⟩ := t0; exact DataW.trod_lt m _ _ _ hm
  obtain ⟨A0, n0, c0, rfl⟩ := okWide_slice Try.underlying52 (hval 0 52 v0 rfl rfl)
  have hR0 : BysRaw W A0 n0 := param_bys Try.underlying52 Try.underlying5 (by kernel_rfl) h0
  have t1 := h1
  have lt1 : ∀ x ∈ p1, x.block < W.heap.size := by obtain ⟨m, hm⟩ := t1; exact DataW.trod_lt m _ _ _ hm
  obtain ⟨A1, n1, c1, rfl⟩ := okWide_slice Try.underlying52 (hval 1 52 v1 rfl rfl)
  have hR1 : BysRaw W A1 n1 := param_bys Try.underlying52 Try.underlying5 (by kernel_rfl) h1
  clear hA0 hval0
  refine (walk A0 n0 c0 A1 n1 c1 W hR0 hR1).mono fun e W' ⟨he, bel⟩ => ?_
  subst he
  exact ⟨_, rfl, _, _, _, [], _, [], hW', trodAll_mk1 (shut_bool Try.underlying4 _), (trodAll_cons_mk (Below.trod laidOut (by kernel_rfl) (of_decide_eq_true (by kernel_rfl)) t0 bel lt0) (trodAll_cons_mk (Below.trod laidOut (by kernel_rfl) (of_decide_eq_true (by kernel_rfl)) t1 bel lt1) trodAll_mk0)), rfl, bel.frame _, fun h => by cases h⟩

theorem over : Rows.fnFiresRow.holds Try.pinned (OpenSpec.ofChange Rows.fnFiresSpec) :=
  OpenClaim.holds_of_wide 12 Try.f12 rfl rfl rfl rfl rfl rfl rfl ⟨rfl, rfl, rfl, rfl, rfl⟩ rfl rfl rfl rfl rfl (by kernel_rfl) Try.func12 (by kernel_rfl)
    (of_decide_eq_true (by kernel_rfl)) (by unfold Func.isWrapper; first | (rw [if_pos (by decide +kernel)]; kernel_rfl) | (rw [if_neg (by decide +kernel)]; exact ⟨rfl, rfl⟩))
    (fun os started H enc _ => lifted os started H enc)

theorem proved : Rows.FnFiresSaid := over
end Go.Proofs.Ytnccooeaeomjfaa.lawFnFires
