/- FnHeat returns true for every input, and the argument reads afterwards as it read before. No condition. -/
import Derived.Test.YtoghgbbepjpelaaLB
import Derived.Test.YtoghgbbepjpelaaHD3
import Derived.Test.YtoghgbbepjpelaaH2
import Derived.Test.YtoghgbbepjpelaaHL
namespace Go.Proofs.Ytoghgbbepjpelaa.lawFnHeat
open Go.ChangeShapes Go.WideShapes Go.ChangeAt Go.RowKit Go.Joins
open Go.ChangeMaps (open_string shut_string)
set_option linter.unusedVariables false

theorem own : ownKnob Try.prog.godebug = none := by kernel_rfl
theorem laidOut : laidOutB Try.prog = true := by kernel_rfl

theorem hours_cases (ds : List Int) (x : Int) {a b c d : Int} (h : hoursF ds x = (a, b)) (k : workF ds x = (c, d)) :
    (b = 0 ∧ firB ds = true ∧ 0 ≤ x ∧ x ≤ 1300 ∧ a = hoursFv ds x ∧ c = workFv ds x) ∨ b = 2 := by
  unfold hoursF at h; unfold workF at k
  split at h
  · rename_i g
    rw [if_pos g] at k
    obtain ⟨rfl, rfl⟩ := Prod.mk.inj h
    obtain ⟨rfl, rfl⟩ := Prod.mk.inj k
    rw [Bool.and_eq_true] at g
    obtain ⟨h0, h1⟩ := inB_true.1 g.2
    exact .inl ⟨rfl, g.1, h0, h1, rfl, rfl⟩
  · obtain ⟨rfl, rfl⟩ := Prod.mk.inj h
    exact .inr rfl
theorem hot_ex (ds : List Int) : ∀ n, 1 ≤ n → ∃ b, IsHot ds n b := by
  intro n
  induction n with
  | zero => intro h; omega
  | succ n ih =>
    intro _
    rcases Nat.eq_zero_or_pos n with hz | hp
    · subst hz
      exact ⟨0, by omega, fun j hj => by obtain rfl : j = 0 := by omega
                                         exact Int.le_refl _, fun j hj => absurd hj (by omega)⟩
    · obtain ⟨b, hb⟩ := ih hp
      by_cases h : nth ds b < nth ds n
      · exact ⟨n, hb.step_yes h⟩
      · exact ⟨b, hb.step_no (by omega)⟩
theorem hot_cases (ds : List Int) {k c : Int} (h : hotF ds = (k, c)) : (c = 0 ∧ firB ds = true ∧ ∃ b : Nat, k = b ∧ b < ds.length ∧ ∀ j, j < ds.length → nth ds j ≤ nth ds b) ∨ c = 2 := by
  unfold hotF at h
  split at h
  · rename_i g
    obtain ⟨rfl, rfl⟩ := Prod.mk.inj h
    obtain ⟨b, hb⟩ := hot_ex ds ds.length (firB_parts g).1
    exact .inl ⟨rfl, g, b, hotV_is hb, hb.lt, hb.all⟩
  · obtain ⟨rfl, rfl⟩ := Prod.mk.inj h
    exact .inr rfl
theorem cool_cases2 (ds : List Int) (m : Int) {k c : Int} (h : coolG ds m = (k, c)) : (c = 0 ∧ k = -1) ∨ (c = 0 ∧ firB ds = true ∧ ∃ j : Nat, j + 1 < ds.length ∧ k = (j : Int) + 1 ∧ m < nth ds j - nth ds (j + 1)) ∨ c = 2 := by
  unfold coolG at h
  split at h
  · rename_i g
    obtain ⟨rfl, rfl⟩ := Prod.mk.inj h
    rw [Bool.and_eq_true] at g
    rcases cool_cases ds m with e | ⟨j, hj, e, hm⟩
    · exact .inl ⟨rfl, e⟩
    · exact .inr (.inl ⟨rfl, g.1, j, hj, e, hm⟩)
  · obtain ⟨rfl, rfl⟩ := Prod.mk.inj h
    exact .inr (.inr rfl)

set_option maxRecDepth 100000 in
set_option maxHeartbeats 16000000 in
theorem walk (A0 : Option Addr) (n0 c0 : Nat) (w : World) (hR0 : BysRaw w A0 n0) :
    Calls Try.prog 3 #[.slice A0 n0 c0] w fun e w' => e = .returned (.bool true) ∧ Below w.heap.size w w' := by
  have hbd0 := hR0.1
  by_cases hbig : (4096 : Int) < n0
  · go_enter Try.func3, Try.ntmps3
    go_wp2_with fail
    refine (f6big_yes _ _ _ _ hbd0 hbig).mono ?_; rintro e w' ⟨rfl, rfl⟩
    go_wp2_with fail
    go_ret
    exact ⟨rfl, by go_grown⟩
  · have HB0 := Lib.hid (hR0.bys (by omega))
    clear hR0
    go_enter Try.func3, Try.ntmps3
    go_wp2_with fail
    refine (f6big_no _ _ _ _ (by omega)).mono ?_; rintro e w' ⟨rfl, rfl⟩
    go_wp2_with fail
    refine (drawHoursAbove_any A0 n0 c0 _ HB0.out).mono ?_; rintro e w1 ⟨A1, n1, c1, ds, lv, rfl, hI1, hn1, B1⟩
    have HI1 := Lib.hid hI1
    obtain ⟨hv, hc, hh⟩ : ∃ a b, hoursF ds lv = (a, b) := ⟨_, _, rfl⟩
    obtain ⟨wv, wc, hw⟩ : ∃ a b, workF ds lv = (a, b) := ⟨_, _, rfl⟩
    have D1 := Lib.hid (hours_cases ds lv hh hw)
    have H1 := Lib.hid (fun W hW => hh ▸ implHoursAbove_any A1 n1 c1 ds lv W hW)
    have H2 := Lib.hid (fun W hW => hh ▸ specHoursAbove_any A1 n1 c1 ds lv W hW)
    have H3 := Lib.hid (fun W hW => hw ▸ implHeatWork_any A1 n1 c1 ds lv W hW)
    have H4 := Lib.hid (fun W hW => hw ▸ specHeatWork_any A1 n1 c1 ds lv W hW)
    clear hI1 hh hw
    go_wp2_with fail
    refine (H1.out _ HI1.out).mono ?_; rintro e w2 ⟨rfl, hb2⟩
    have B2 := bel_tr B1 hb2
    have HI2 := Lib.hid (HI1.out.below hb2)
    go_wp2_with fail
    refine (H2.out _ HI2.out).mono ?_; rintro e w3 ⟨rfl, hb3⟩
    have B3 := bel_tr B2 hb3
    have HI3 := Lib.hid (HI2.out.below hb3)
    go_wp2_with fail
    refine (H3.out _ HI3.out).mono ?_; rintro e w4 ⟨rfl, hb4⟩
    have B4 := bel_tr B3 hb4
    have HI4 := Lib.hid (HI3.out.below hb4)
    go_wp2_with fail
    refine (H4.out _ HI4.out).mono ?_; rintro e w5 ⟨rfl, hb5⟩
    have B5 := bel_tr B4 hb5
    have HI5 := Lib.hid (HI4.out.below hb5)
    clear hb2 hb3 hb4 hb5 H1 H2 H3 H4 HI1 HI2 HI3 HI4
    go_wp2_with fail
    refine (drawHottestHour_any A0 n0 c0 _ (HB0.out.below B5)).mono ?_; rintro e w6 ⟨A6, n6, c6, ls, rfl, hI6, hn6, hb6⟩
    have B6 := bel_tr B5 hb6
    have HI6 := Lib.hid (HI5.out.below hb6)
    have HL6 := Lib.hid hI6
    have HN6 := Lib.hid hI6.len
    obtain ⟨kv, kc, hk⟩ : ∃ a b, hotF ls = (a, b) := ⟨_, _, rfl⟩
    have D2 := Lib.hid (hot_cases ls hk)
    have H1 := Lib.hid (fun W hW => hk ▸ implHottestHour_any A6 n6 c6 ls W hW)
    have H2 := Lib.hid (fun W hW => hk ▸ specHottestHour_any A6 n6 c6 ls W hW)
    clear hI6 hk
    go_wp2_with fail
    refine (H1.out _ HL6.out).mono ?_; rintro e w7 ⟨rfl, hb7⟩
    have B7 := bel_tr B6 hb7
    have HI7 := Lib.hid (HI6.out.below hb7)
    have HL7 := Lib.hid (HL6.out.below hb7)
    go_wp2_with fail
    refine (H2.out _ HL7.out).mono ?_; rintro e w8 ⟨rfl, hb8⟩
    have B8 := bel_tr B7 hb8
    have HI8 := Lib.hid (HI7.out.below hb8)
    have HL8 := Lib.hid (HL7.out.below hb8)
    clear hb6 hb7 hb8 H1 H2 HI5 HI6 HI7 HL6 HL7
    go_wp2_with fail
    refine (drawCoolingFault_any A0 n0 c0 _ (HB0.out.below B8)).mono ?_; rintro e w9 ⟨A9, n9, c9, cs, most, rfl, hI9, hn9, hb9⟩
    have B9 := bel_tr B8 hb9
    have HI9 := Lib.hid (HI8.out.below hb9)
    have HL9 := Lib.hid (HL8.out.below hb9)
    have HC9 := Lib.hid hI9
    have HN9 := Lib.hid hI9.len
    obtain ⟨fv, fc, hf⟩ : ∃ a b, coolG cs most = (a, b) := ⟨_, _, rfl⟩
    have D3 := Lib.hid (cool_cases2 cs most hf)
    have H1 := Lib.hid (fun W hW => hf ▸ implCoolingFault_any A9 n9 c9 cs most W hW)
    have H2 := Lib.hid (fun W hW => hf ▸ specCoolingFault_any A9 n9 c9 cs most W hW)
    clear hI9 hf
    go_wp2_with fail
    refine (H1.out _ HC9.out).mono ?_; rintro e w10 ⟨rfl, hb10⟩
    have B10 := bel_tr B9 hb10
    have HI10 := Lib.hid (HI9.out.below hb10)
    have HL10 := Lib.hid (HL9.out.below hb10)
    have HC10 := Lib.hid (HC9.out.below hb10)
    go_wp2_with fail
    refine (H2.out _ HC10.out).mono ?_; rintro e w11 ⟨rfl, hb11⟩
    have B11 := bel_tr B10 hb11
    have HI11 := Lib.hid (HI10.out.below hb11)
    have HL11 := Lib.hid (HL10.out.below hb11)
    have HC11 := Lib.hid (HC10.out.below hb11)
    clear hb9 hb10 hb11 H1 H2 HI8 HI9 HI10 HL8 HL9 HL10 HC9 HC10
    go_wp2_with fail
    refine (drawFuelFor_any A0 n0 c0 _ (HB0.out.below B11)).mono ?_; rintro e w12 ⟨A12, n12, c12, us, each, rfl, hI12, hn12, hb12⟩
    have B12 := bel_tr B11 hb12
    have HU12 := Lib.hid hI12
    obtain ⟨uv, uc, hu⟩ : ∃ a b, fuelF us each = (a, b) := ⟨_, _, rfl⟩
    have H1 := Lib.hid (fun W hW => hu ▸ implFuelFor_any A12 n12 c12 us each W hW)
    have H2 := Lib.hid (fun W hW => hu ▸ specFuelFor_any A12 n12 c12 us each W hW)
    clear hI12 hu
    go_wp2_with fail
    refine (H1.out _ HU12.out).mono ?_; rintro e w13 ⟨rfl, hb13⟩
    have B13 := bel_tr B12 hb13
    go_wp2_with fail
    refine (H2.out _ (HU12.out.below hb13)).mono ?_; rintro e w14 ⟨rfl, hb14⟩
    have B14 := bel_tr B13 hb14
    have T14 : Below w11.heap.size w11 w14 := bel_tr (bel_tr hb12 hb13) hb14
    have HI := Lib.hid (HI11.out.below T14)
    have HL := Lib.hid (HL11.out.below T14)
    have HC := Lib.hid (HC11.out.below T14)
    clear hb12 hb13 hb14 H1 H2 HI11 HL11 HC11 HU12 T14 B1 B2 B3 B4 B5 B6 B7 B8 B9 B10 B11 B12 B13 HB0
    go_upto_if 163 with fail
    go_cut [30, 31, 32] (fun _ _ _ wx => Below w14.heap.size w14 wx)
    case first =>
      rcases D2.out with ⟨rfl, hfir, b, rfl, hbl, hall⟩ | rfl
      · have FIR := Lib.hid hfir
        have ALL := Lib.hid hall
        have WZ := Lib.hid (work_sum hfir)
        have W0 := Lib.hid (show workF ls 0 = (workFv ls 0, 0) by rw [workF, hfir]; rfl)
        have hbl' : b < n6 := by have := HN6.out; omega
        have hbi : (b : Int) < (n6 : Int) := by omega
        clear hfir hall
        go_wp2_with fail
        go_loopw [30] (fun i wr => ∃ j : Nat, j ≤ n6 ∧ i = .int .i64 j ∧ Below w14.heap.size w14 wr) (fun i _ => n6 - (intOf i).toNat)
        case atStart => exact ⟨0, Nat.zero_le _, rfl, Below.refl _ _⟩
        case round =>
          obtain ⟨j, hj, rfl, hb⟩ := hrel
          by_cases hlt : j < n6
          · have hle := ALL.out j (by rw [HN6.out]; exact hlt)
            obtain ⟨bb, off, rfl, _, hcell⟩ := (HL.out.below hb).cell (by omega)
            have hck := hcell j hlt
            have hcb := hcell b hbl'
            have HB := Lib.hid hb
            have hno : decide (nth ls b < nth ls j) = false := decide_eq_false (by omega)
            clear hcell hb
            go_wp2
            go_quiet (fail)
            go_wp2
            go_roundw
            case rel => exact ⟨j + 1, by omega, by go_num, below_drewN HB.out _⟩
            case measure => simp [intOf]; omega
          · obtain rfl : n6 = j := by omega
            have HB := Lib.hid hb
            clear hb
            have H5 := implHeatWork_any A6 n6 c6 ls 0 _ (HL.out.below HB.out)
            rw [W0.out, WZ.out] at H5
            go_wp2_with fail
            refine H5.mono ?_; rintro e wy ⟨rfl, hby⟩
            go_wp2_with fail
            refine (f6sum_any A6 n6 c6 ls _ ((HL.out.below HB.out).below hby)).mono ?_; rintro e wz ⟨rfl, rfl⟩
            go_wp2_with fail
            go_meet
            exact bel_tr HB.out hby
      · go_wp2_with fail
        go_meet
        exact Below.refl _ _
    case rest =>
      obtain ⟨w15, rfl⟩ : ∃ u : World, u = wc := ⟨_, rfl⟩
      have B15 := bel_tr B14 hcut
      have HI15 := Lib.hid (HI.out.below hcut)
      have HC15 := Lib.hid (HC.out.below hcut)
      clear hcut HL HI HC
      go_upto_region 28 with fail
      go_cut [215] (fun c wx => c = .bool false ∧ Below w15.heap.size w15 wx)
      case first =>
        rcases D3.out with ⟨rfl, rfl⟩ | ⟨rfl, hfir, j, hj, rfl, hm⟩ | rfl
        · have g1 : decide ((0 : Int) ≤ -1) = false := rfl
          have g2 : decide ((-1 : Int) ≥ 0) = false := rfl
          go_quiet (fail)
          go_wp2
          go_meet
          exact ⟨rfl, by first | exact below_drewN (Below.refl _ _) _ | exact Below.refl _ _⟩
        · have hj9 : j + 1 < n9 := by have := HN9.out; omega
          obtain ⟨x0, x1⟩ := firB_nth hfir (k := j) (by omega)
          obtain ⟨y0, y1⟩ := firB_nth hfir (k := j + 1) (by omega)
          obtain ⟨bb, off, rfl, _, hcell⟩ := HC15.out.cell (by omega)
          have hc1 := hcell j (by omega)
          have hc2 := hcell (j + 1) (by omega)
          have g1 : decide ((0 : Int) ≤ (j : Int) + 1) = true := decide_eq_true (by omega)
          have g2 : decide ((j : Int) + 1 < 1) = false := decide_eq_false (by omega)
          have g3 : IntKind.i64.wrap ((j : Int) + 1 - 1) = (j : Int) := by rw [IntWalk.i64_in _ (by omega)]; omega
          have g4 : IntKind.i64.wrap (nth cs j - nth cs (j + 1)) = nth cs j - nth cs (j + 1) := IntWalk.i64_in _ (by omega)
          have g5 : decide (nth cs j - nth cs (j + 1) ≤ most) = false := decide_eq_false (by omega)
          have g6 : ((j : Int) + 1).toNat = j + 1 := by omega
          have g7 : (0 : Int) ≤ (j : Int) + 1 := by omega
          have g8 : (j : Int) + 1 < (n9 : Int) := by omega
          have g9 : (j : Int) < (n9 : Int) := by omega
          have g10 : j < n9 := by omega
          clear hcell hfir hm
          go_quiet (fail)
          go_wp2
          go_meet
          exact ⟨rfl, by first | exact below_drewN (Below.refl _ _) _ | exact Below.refl _ _⟩
        · go_quiet (fail)
          go_wp2
          go_meet
          exact ⟨rfl, by first | exact below_drewN (Below.refl _ _) _ | exact Below.refl _ _⟩
      case rest =>
        obtain ⟨rfl, hb16⟩ := hcut
        obtain ⟨w16, rfl⟩ : ∃ u : World, u = wc := ⟨_, rfl⟩
        have B16 := bel_tr B15 hb16
        have HI16 := Lib.hid (HI15.out.below hb16)
        clear hb16 HI15 HC15
        rcases D1.out with ⟨rfl, hfir, l0, l1, hve, hwe⟩ | rfl
        · by_cases hlz : lv = 0
          · have hlz' : (lv == 0) = true := by simpa using hlz
            clear hlz hve hwe hfir
            go_wp2_with fail
            go_ret
            exact ⟨rfl, B16⟩
          · have hlz' : (lv == 0) = false := by simpa using hlz
            have hg : (firB ds && inB (lv - 1) 0 1300) = true := by rw [hfir, inB_true.2 (by omega)]; rfl
            have hlen := (firB_parts hfir).2.1
            have W1 : hoursF ds (lv - 1) = (hoursFv ds (lv - 1), 0) := by rw [hoursF, if_pos hg]
            have W2 : workF ds (lv - 1) = (workFv ds (lv - 1), 0) := by rw [workF, if_pos hg]
            have e1 : hv ≤ hoursFv ds (lv - 1) := by rw [hve]; exact cntGe_less _
            have e2 : workFv ds (lv - 1) = wv + hv := by rw [hve, hwe]; exact work_less _
            have b1 : 0 ≤ hv ∧ hv ≤ 200 := by rw [hve]; have := cntGe_bound ds lv ds.length; unfold hoursFv; omega
            have b2 : 0 ≤ wv ∧ wv ≤ 1300 * 200 := by
              have := sumTo_bound (f := heatAt ds lv) (m := 1300) (n := ds.length) (fun k hk => by have := firB_nth hfir hk; unfold heatAt; omega) ds.length (Nat.le_refl _)
              rw [hwe]; unfold workFv; omega
            obtain ⟨mo, hmo⟩ : ∃ m, hoursFv ds (lv - 1) = m := ⟨_, rfl⟩
            obtain ⟨wi, hwi⟩ : ∃ m, workFv ds (lv - 1) = m := ⟨_, rfl⟩
            rw [hmo] at W1 e1; rw [hwi] at W2 e2
            have H1 := Lib.hid (fun W hW => W1 ▸ implHoursAbove_any A1 n1 c1 ds (lv - 1) W hW)
            have H2 := Lib.hid (fun W hW => W2 ▸ implHeatWork_any A1 n1 c1 ds (lv - 1) W hW)
            have e3 : decide (hv ≤ mo) = true := decide_eq_true e1
            have e4 : (wi == wv + hv) = true := by simpa using e2
            have hl1 : 1 ≤ lv := by omega
            clear hlz hve hwe hfir hg W1 W2 hmo hwi e2
            go_wp2_with fail
            refine (H1.out _ HI16.out).mono ?_; rintro e w17 ⟨rfl, hb17⟩
            go_wp2_with fail
            refine (H2.out _ (HI16.out.below hb17)).mono ?_; rintro e w18 ⟨rfl, hb18⟩
            go_wp2_with fail
            go_ret
            exact ⟨rfl, bel_tr (bel_tr B16 hb17) hb18⟩
        · go_wp2_with fail
          go_ret
          exact ⟨rfl, B16⟩

set_option maxRecDepth 100000 in
theorem lifted (os : Os) (started : os.Started) (H : Type) (enc : TypeId × Value → H) :
    ReturnsInHanded {} Try.checked os 3 .any (Rows.fnHeatSpec.pre6 enc Try.prog Try.f3 Rows.fnHeatRow.domain false) (Rows.fnHeatSpec.post enc Try.prog Try.f3 false true false false) := by
  refine returnsInHanded_of_change (C := Try.checked) own started (by kernel_rfl) Try.func3
    (ChangeSpec.witness6 (enc := enc) (C := Try.checked) false ⟨#[], #[.slice none 0 0], []⟩ 8 (by kernel_rfl) (by kernel_rfl) (by kernel_rfl) (by kernel_rfl)) ?_
  intro W base args ds gs before hval0 hW hcnd _
  have hval : ∀ (j : Nat) t v, Try.f3.params[j]? = some t → args[j]? = some v → Value.okWide Try.prog W .any base t v := hval0
  have hW' := hW
  obtain ⟨p, q, hA0, hV, rfl, hfz, hnd⟩ := hW
  have hA : DataW.TrodAll enc Try.prog W 0 (fun _ => true) true Try.f3.params.toList args.toList ds p := hA0
  rw [Try.params3] at hA hval
  obtain ⟨v0, vs0, d0, ds0, p0, q0, hargs, rfl, rfl, h0, r0⟩ := trodAll_cons hA
  obtain ⟨rfl, rfl, rfl⟩ := trodAll_nil r0
  obtain rfl : args = #[v0] := by cases args; simp_all
  obtain ⟨rfl, rfl⟩ := trodVars_none hV
  have t0 := h0
  have lt0 : ∀ x ∈ p0, x.block < W.heap.size := by obtain ⟨m, hm⟩ := t0; exact DataW.trod_lt m _ _ _ hm
  obtain ⟨A0, n0, c0, rfl⟩ := okWide_slice Try.underlying22 (hval 0 22 v0 rfl rfl)
  have hR0 : BysRaw W A0 n0 := param_bys Try.underlying22 Try.underlying5 (by kernel_rfl) h0
  clear hA0 hval0
  refine (walk A0 n0 c0 W hR0).mono fun e W' ⟨he, bel⟩ => ?_
  subst he
  exact ⟨_, rfl, _, _, _, [], _, [], hW', trodAll_mk1 (shut_bool Try.underlying4 _), (trodAll_cons_mk (Below.trod laidOut (by kernel_rfl) (of_decide_eq_true (by kernel_rfl)) t0 bel lt0) trodAll_mk0), rfl, bel.frame _, fun h => by cases h⟩

theorem over : Rows.fnHeatRow.holds Try.pinned (OpenSpec.ofChange Rows.fnHeatSpec) :=
  OpenClaim.holds_of_wide 3 Try.f3 rfl rfl rfl rfl rfl rfl rfl ⟨rfl, rfl, rfl, rfl, rfl⟩ rfl rfl rfl rfl rfl (by kernel_rfl) Try.func3 (by kernel_rfl)
    (of_decide_eq_true (by kernel_rfl)) (by unfold Func.isWrapper; first | (rw [if_pos (by decide +kernel)]; kernel_rfl) | (rw [if_neg (by decide +kernel)]; exact ⟨rfl, rfl⟩))
    (fun os started H enc _ => lifted os started H enc)

theorem proved : Rows.FnHeatSaid := over
end Go.Proofs.Ytoghgbbepjpelaa.lawFnHeat
