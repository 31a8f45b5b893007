/- FnCauses returns true for every input, and each argument reads afterwards as it read before. No condition. -/
import Derived.Test.YtmapjepdcbpalaaBp
import Derived.Test.YtmapjepdcbpalaaD3
import Derived.Test.YtmapjepdcbpalaaBG
namespace Go.Proofs.Ytmapjepdcbpalaa.lawFnCauses
open Go.ChangeShapes Go.WideShapes Go.ChangeAt Go.RowKit Go.Joins
open Go.ChangeMaps (open_string shut_string)
set_option linter.unusedVariables false

theorem own : ownKnob Try.prog.godebug = none := by kernel_rfl
theorem laidOut : laidOutB Try.prog = true := by kernel_rfl

theorem com_zero {xs : List Batch} (h : fcC xs = 0) : ccL xs = comL xs ∧ pcL xs = posL xs ∧ codeB xs = 0 := by
  have h0 := (fcC_zero h).1
  exact ⟨by rw [ccL, if_pos h0], by rw [pcL, if_pos h0], h0⟩

set_option maxRecDepth 100000 in
set_option maxHeartbeats 8000000 in
theorem walk (A0 : Option Addr) (n0 c0 : Nat) (A1 : Option Addr) (n1 c1 : Nat) (w : World) (hR0 : BysRaw w A0 n0) (hR1 : BysRaw w A1 n1) :
    Calls Try.prog 4 #[.slice A0 n0 c0, .slice A1 n1 c1] w fun e w' => e = .returned (.bool true) ∧ Below w.heap.size w w' := by
  have hbd0 := hR0.1
  have hbd1 := hR1.1
  by_cases hbig : (3000 : Int) < n0 ∨ (3000 : Int) < n1
  · go_enter Try.func4, Try.ntmps4
    go_wp2_with fail
    refine (long_yes _ _ _ _ _ _ _ hbd0 hbd1 hbig).mono ?_; rintro e w' ⟨rfl, rfl⟩
    go_wp2_with fail
    go_ret
    exact ⟨rfl, by go_grown⟩
  · have hs0 : ¬ (3000 : Int) < n0 := fun h => hbig (.inl h)
    have hs1 : ¬ (3000 : Int) < n1 := fun h => hbig (.inr h)
    have HB0 := Lib.hid (hR0.bys (by omega))
    have HB1 := Lib.hid (hR1.bys (by omega))
    clear hbig hR0 hR1
    go_enter Try.func4, Try.ntmps4
    go_wp2_with fail
    refine (long_no _ _ _ _ _ _ _ (by omega) (by omega)).mono ?_; rintro e w' ⟨rfl, rfl⟩
    go_wp2_with fail
    refine (a2Batches_any A0 n0 c0 _ HB0.out).mono ?_; rintro e w1 ⟨A2, n2, c2, xs, rfl, hX, hn2, hsm, B1⟩
    have HX := Lib.hid hX
    have HSM := Lib.hid hsm
    have HOK := Lib.hid (small_batches hsm (by rw [hX.len]; omega))
    obtain ⟨z, hz⟩ : ∃ z, fcC xs = z := ⟨_, rfl⟩
    have ZC := Lib.hid (show z = 0 ∨ z = 3 ∨ (z = 9 ∧ ∀ cs : List Cause, (∀ c ∈ cs, causeB c = true) → aeB xs cs = false) by rw [← hz]; exact fcC_cases hsm (by rw [hX.len]; omega))
    obtain ⟨few, hfew⟩ : ∃ few, fcL xs = few := ⟨_, rfl⟩
    have hcon := implFewestCauses_any A2 n2 c2 xs _ hX
    rw [hz, hfew] at hcon
    have HZ := Lib.hid hz; have HF := Lib.hid hfew
    clear hX hsm hz hfew
    go_wp2_with fail
    refine hcon.mono ?_; rintro e w2 ⟨A3, n3, c3, rfl, hS3, _, _, hb2⟩
    have HS3 := Lib.hid hS3
    have L3 := Lib.hid hS3.len
    have B2 : Below w.heap.size w w2 := bel_tr B1 hb2
    clear hS3 hcon
    go_wp2_with fail
    refine (a2Causes_any A1 n1 c1 _ (HB1.out.below B2)).mono ?_; rintro e w3 ⟨A4, n4, c4, cs, rfl, hS4, hn4, hcs, hb3⟩
    have B3 : Below w.heap.size w w3 := bel_tr B2 hb3
    have HX3 := Lib.hid (HX.out.below (bel_tr hb2 hb3))
    obtain ⟨dr1, dr2⟩ := drawn_code HOK.out hcs (by rw [hS4.len]; omega)
    obtain ⟨ae, hae⟩ : ∃ ae, aeB xs cs = ae := ⟨_, rfl⟩
    have hcon := implAreExplained_any A2 n2 c2 xs A4 n4 c4 cs _ HX3.out hS4
    unfold AreC at hcon
    rw [dr2, dr1, hae] at hcon
    have AE := Lib.hid hae
    have HCS := Lib.hid hcs
    have L4 := Lib.hid hS4.len
    clear hS4 dr1 dr2 hae hcs
    go_wp2_with fail
    refine hcon.mono ?_; rintro e w4 ⟨rfl, hb4⟩
    have B4 : Below w.heap.size w w4 := bel_tr B3 hb4
    have HX4 := Lib.hid (HX3.out.below hb4)
    have HS4 := Lib.hid (HS3.out.below (bel_tr hb3 hb4))
    clear hcon
    have hzc := ZC.out
    rcases hzc with rfl | rfl | ⟨rfl, hno⟩
    · have NE := few_ne HZ.out
      have LE := few_len HZ.out
      have FL := Lib.hid (show ae = true → n3 ≤ n4 from fun h => by
        have h1 := few_le HZ.out HCS.out (AE.out.trans h)
        rw [HF.out, L3.out, L4.out] at h1; exact h1)
      rw [HF.out, L3.out] at NE LE
      obtain ⟨hcc, hpc, hcb⟩ := com_zero HZ.out
      have hv1 := few_val HZ.out
      have hv2 := few_code HZ.out
      have hsi := single_iff HZ.out
      have hfp : ∀ c ∈ few, c ∈ posL xs := fun c hc => few_pos HZ.out (by rw [HF.out]; exact hc)
      rw [HF.out] at hv1 hv2 hsi
      rw [singleB, L3.out] at hsi
      have hcon := specAreExplained_any A2 n2 c2 xs A3 n3 c3 few _ HX4.out HS4.out
      unfold AreC at hcon
      rw [hv1, hv2] at hcon
      have hccon := fun W hW => implCommonCauses_any A2 n2 c2 xs W hW
      have hpcon := fun W hW => implPossibleCauses_any A2 n2 c2 xs W hW
      rw [hcc, hcb] at hccon
      rw [hpc, hcb] at hpcon
      obtain ⟨com, hcom⟩ : ∃ l, comL xs = l := ⟨_, rfl⟩
      obtain ⟨pos, hpos⟩ : ∃ l, posL xs = l := ⟨_, rfl⟩
      rw [hcom] at hccon hsi
      rw [hpos] at hpcon hsi hfp
      have SI := Lib.hid hsi
      have FP := Lib.hid hfp
      have HCC := Lib.hid hccon; have HPC := Lib.hid hpcon
      clear hcc hpc hcb hv1 hv2 hsi hfp hcom hpos hccon hpcon
      have hne1 : ¬ (n3 : Int) < 1 := by omega
      have hfl : ae = false ∨ (ae = true ∧ ¬ (n4 : Int) < (n3 : Int)) := by
        cases ae with
        | false => exact .inl rfl
        | true => exact .inr ⟨rfl, by have := FL.out rfl; omega⟩
      go_wp2_with fail
      refine hcon.mono ?_; rintro e w5 ⟨rfl, hb5⟩
      clear hcon
      have B5 : Below w.heap.size w w5 := bel_tr B4 hb5
      rcases hfl with rfl | ⟨rfl, hfl⟩
      all_goals
        go_wp2_with fail
        refine (HCC.out _ (HX4.out.below hb5)).mono ?_; rintro e w6 ⟨A6, n6, c6, rfl, hS6, _, _, hb6⟩
        have B6 : Below w.heap.size w w6 := bel_tr B5 hb6
        have HS6 := Lib.hid hS6
        have L6 := Lib.hid hS6.len
        have hn6 := hS6.bound
        clear hS6
        go_wp2_with fail
        refine (HPC.out _ (HX4.out.below (bel_tr hb5 hb6))).mono ?_; rintro e w7 ⟨A7, n7, c7, rfl, hS7, _, _, hb7⟩
        have B7 : Below w.heap.size w w7 := bel_tr B6 hb7
        have HS7 := Lib.hid hS7
        have L7 := Lib.hid hS7.len
        have hn7 := hS7.bound
        have HC7 := Lib.hid (HS6.out.below hb7)
        have HF7 := Lib.hid (HS4.out.below (bel_tr (bel_tr hb5 hb6) hb7))
        have hz7 := B7.size
        clear hS7
        go_wp2_with fail
        go_loopw [17, 18] (fun s t wr => ∃ (i : Nat) (u : Bool), i ≤ n6 ∧ t = .int .i64 i ∧ s = .bool u ∧ u = (com.take i).any (fun c => pos.any (Cause.eqB c)) ∧ Below w7.heap.size w7 wr) (fun _ t _ => n6 - (intOf t).toNat)
        case atStart => exact ⟨0, false, Nat.zero_le _, rfl, rfl, rfl, Below.refl _ _⟩
        case round =>
          obtain ⟨i, u, hi, rfl, rfl, hu, hB⟩ := hrel
          have U := Lib.hid hu; have HB := Lib.hid hB
          have hzr := hB.size
          clear hu hB
          obtain ⟨wo, rfl⟩ : ∃ wo : World, wo = wr := ⟨_, rfl⟩
          by_cases hlt : i < n6
          · go_wp2_with fail
            go_loopw [17, 19] (fun s t wr => ∃ (k : Nat) (v : Bool), k ≤ n7 ∧ t = .int .i64 k ∧ s = .bool v ∧ v = (u || (pos.take k).any (Cause.eqB (nt com i))) ∧ Below w7.heap.size w7 wr) (fun _ t _ => n7 - (intOf t).toNat)
            case atStart => exact ⟨0, u, Nat.zero_le _, rfl, rfl, by simp, HB.out⟩
            case round =>
              obtain ⟨k, v, hk, rfl, rfl, hv, hB2⟩ := hrel
              have V := Lib.hid hv; have HB2 := Lib.hid hB2
              clear hv hB2
              obtain ⟨wi, rfl⟩ : ∃ wo : World, wo = wr := ⟨_, rfl⟩
              by_cases hkt : k < n7
              · have HS := Lib.hid (any_succ (p := Cause.eqB (nt com i)) (show k < pos.length by rw [L7.out]; exact hkt))
                obtain ⟨b, off, rfl, hb, hc⟩ := (HC7.out.below HB2.out).cell (by omega)
                obtain ⟨p0, p1⟩ := hc i hlt
                obtain ⟨b', off', rfl, hb', hc'⟩ := (HS7.out.below HB2.out).cell (by omega)
                obtain ⟨q0, q1⟩ := hc' k hkt
                clear hc hc'
                cases v with
                | true =>
                  have VN := Lib.hid (show true = (u || (pos.take (k + 1)).any (Cause.eqB (nt com i))) by rw [HS.out, ← Bool.or_assoc, ← V.out]; rfl)
                  go_wp2_with fail
                  go_quiet (fail)
                  go_wp2_with fail
                  go_roundw
                  case rel => exact ⟨k + 1, true, by omega, by go_num, rfl, VN.out, by first | exact below_drewN HB2.out _ | exact HB2.out⟩
                  case measure => simp [intOf]; omega
                | false =>
                  rcases Bool.eq_false_or_eq_true ((nt com i).Kind == (nt pos k).Kind) with g0 | g0
                  · rcases Bool.eq_false_or_eq_true ((nt com i).Number == (nt pos k).Number) with g1 | g1
                    · have Q := Lib.hid (show Cause.eqB (nt com i) (nt pos k) = true by rw [Cause.eqB, g0, g1]; rfl)
                      have VN := Lib.hid (show (true : Bool) = (u || (pos.take (k + 1)).any (Cause.eqB (nt com i))) by rw [HS.out, ← Bool.or_assoc, ← V.out, Q.out]; rfl)
                      go_wp2_with fail
                      go_quiet (fail)
                      go_wp2_with fail
                      go_roundw
                      case rel => exact ⟨k + 1, _, by omega, by go_num, rfl, VN.out, by first | exact below_drewN HB2.out _ | exact HB2.out⟩
                      case measure => simp [intOf]; omega
                    · have Q := Lib.hid (show Cause.eqB (nt com i) (nt pos k) = false by rw [Cause.eqB, g1]; simp)
                      have VN := Lib.hid (show (false : Bool) = (u || (pos.take (k + 1)).any (Cause.eqB (nt com i))) by rw [HS.out, ← Bool.or_assoc, ← V.out, Q.out]; rfl)
                      go_wp2_with fail
                      go_quiet (fail)
                      go_wp2_with fail
                      go_roundw
                      case rel => exact ⟨k + 1, _, by omega, by go_num, rfl, VN.out, by first | exact below_drewN HB2.out _ | exact HB2.out⟩
                      case measure => simp [intOf]; omega
                  · have Q := Lib.hid (show Cause.eqB (nt com i) (nt pos k) = false by rw [Cause.eqB, g0]; simp)
                    have VN := Lib.hid (show (false : Bool) = (u || (pos.take (k + 1)).any (Cause.eqB (nt com i))) by rw [HS.out, ← Bool.or_assoc, ← V.out, Q.out]; rfl)
                    go_wp2_with fail
                    go_quiet (fail)
                    go_wp2_with fail
                    go_roundw
                    case rel => exact ⟨k + 1, _, by omega, by go_num, rfl, VN.out, by first | exact below_drewN HB2.out _ | exact HB2.out⟩
                    case measure => simp [intOf]; omega
              · obtain rfl : n7 = k := by omega
                have VN := Lib.hid (show v = (com.take (i + 1)).any (fun c => pos.any (Cause.eqB c)) by
                  rw [any_succ (show i < com.length by rw [L6.out]; exact hlt), ← U.out, V.out, List.take_of_length_le (by rw [L7.out]; exact Nat.le_refl _)])
                go_wp2_with fail
                go_roundw
                case rel => exact ⟨i + 1, v, by omega, by go_num, rfl, VN.out, HB2.out⟩
                case measure => simp [intOf]; omega
          · obtain rfl : n6 = i := by omega
            have US := Lib.hid (show u = decide (n3 = 1) by rw [U.out, List.take_of_length_le (by rw [L6.out]; exact Nat.le_refl _), SI.out])
            go_wp2_with fail
            go_loopw [20] (fun t wr => ∃ (i : Nat), i ≤ n3 ∧ t = .int .i64 i ∧ Below w7.heap.size w7 wr) (fun t _ => n3 - (intOf t).toNat)
            case atStart => exact ⟨0, Nat.zero_le _, rfl, HB.out⟩
            case round =>
              obtain ⟨i, hi, rfl, hB⟩ := hrel
              have HB := Lib.hid hB
              clear hB
              obtain ⟨wx, rfl⟩ : ∃ wo : World, wo = wr := ⟨_, rfl⟩
              by_cases hlt : i < n3
              · go_wp2_with fail
                go_loopw [21, 22] (fun s t wr => ∃ (k : Nat) (v : Bool), k ≤ n7 ∧ t = .int .i64 k ∧ s = .bool v ∧ v = (pos.take k).any (Cause.eqB (nt few i)) ∧ Below w7.heap.size w7 wr) (fun _ t _ => n7 - (intOf t).toNat)
                case atStart => exact ⟨0, false, Nat.zero_le _, rfl, rfl, by simp, HB.out⟩
                case round =>
                  obtain ⟨k, v, hk, rfl, rfl, hv, hB2⟩ := hrel
                  have V := Lib.hid hv; have HB2 := Lib.hid hB2
                  clear hv hB2
                  obtain ⟨wi, rfl⟩ : ∃ wo : World, wo = wr := ⟨_, rfl⟩
                  by_cases hkt : k < n7
                  · have HS := Lib.hid (any_succ (p := Cause.eqB (nt few i)) (show k < pos.length by rw [L7.out]; exact hkt))
                    obtain ⟨b, off, rfl, hb, hc⟩ := (HF7.out.below HB2.out).cell (by omega)
                    obtain ⟨p0, p1⟩ := hc i hlt
                    obtain ⟨b', off', rfl, hb', hc'⟩ := (HS7.out.below HB2.out).cell (by omega)
                    obtain ⟨q0, q1⟩ := hc' k hkt
                    clear hc hc'
                    cases v with
                    | true =>
                      have VN := Lib.hid (show true = (pos.take (k + 1)).any (Cause.eqB (nt few i)) by rw [HS.out, ← V.out]; rfl)
                      go_wp2_with fail
                      go_quiet (fail)
                      go_wp2_with fail
                      go_roundw
                      case rel => exact ⟨k + 1, true, by omega, by go_num, rfl, VN.out, by first | exact below_drewN HB2.out _ | exact HB2.out⟩
                      case measure => simp [intOf]; omega
                    | false =>
                      rcases Bool.eq_false_or_eq_true ((nt few i).Kind == (nt pos k).Kind) with g0 | g0
                      · rcases Bool.eq_false_or_eq_true ((nt few i).Number == (nt pos k).Number) with g1 | g1
                        · have Q := Lib.hid (show Cause.eqB (nt few i) (nt pos k) = true by rw [Cause.eqB, g0, g1]; rfl)
                          have VN := Lib.hid (show (true : Bool) = (pos.take (k + 1)).any (Cause.eqB (nt few i)) by rw [HS.out, ← V.out, Q.out]; rfl)
                          go_wp2_with fail
                          go_quiet (fail)
                          go_wp2_with fail
                          go_roundw
                          case rel => exact ⟨k + 1, _, by omega, by go_num, rfl, VN.out, by first | exact below_drewN HB2.out _ | exact HB2.out⟩
                          case measure => simp [intOf]; omega
                        · have Q := Lib.hid (show Cause.eqB (nt few i) (nt pos k) = false by rw [Cause.eqB, g1]; simp)
                          have VN := Lib.hid (show (false : Bool) = (pos.take (k + 1)).any (Cause.eqB (nt few i)) by rw [HS.out, ← V.out, Q.out]; rfl)
                          go_wp2_with fail
                          go_quiet (fail)
                          go_wp2_with fail
                          go_roundw
                          case rel => exact ⟨k + 1, _, by omega, by go_num, rfl, VN.out, by first | exact below_drewN HB2.out _ | exact HB2.out⟩
                          case measure => simp [intOf]; omega
                      · have Q := Lib.hid (show Cause.eqB (nt few i) (nt pos k) = false by rw [Cause.eqB, g0]; simp)
                        have VN := Lib.hid (show (false : Bool) = (pos.take (k + 1)).any (Cause.eqB (nt few i)) by rw [HS.out, ← V.out, Q.out]; rfl)
                        go_wp2_with fail
                        go_quiet (fail)
                        go_wp2_with fail
                        go_roundw
                        case rel => exact ⟨k + 1, _, by omega, by go_num, rfl, VN.out, by first | exact below_drewN HB2.out _ | exact HB2.out⟩
                        case measure => simp [intOf]; omega
                  · obtain rfl : n7 = k := by omega
                    have VT : v = true := by
                      rw [V.out, List.take_of_length_le (by rw [L7.out]; exact Nat.le_refl _), List.any_eq_true]
                      exact ⟨nt few i, FP.out _ (nt_mem (by rw [L3.out]; exact hlt)), Cause.eqB_iff.2 rfl⟩
                    subst VT
                    go_wp2_with fail
                    go_roundw
                    case rel => exact ⟨i + 1, by omega, by go_num, HB2.out⟩
                    case measure => simp [intOf]; omega
              · obtain rfl : n3 = i := by omega
                by_cases h1 : n3 = 1
                · have hU : u = true := by rw [US.out]; exact decide_eq_true h1
                  subst hU
                  have h1' : ((n3 : Int) == 1) = true := by rw [h1]; rfl
                  clear h1
                  go_wp2_with fail
                  go_ret
                  exact ⟨rfl, B7.trans (HB.out.mono hz7)⟩
                · have hU : u = false := by rw [US.out]; exact decide_eq_false h1
                  subst hU
                  have h1' : ((n3 : Int) == 1) = false := by rw [beq_eq_false_iff_ne]; omega
                  clear h1
                  go_wp2_with fail
                  go_ret
                  exact ⟨rfl, B7.trans (HB.out.mono hz7)⟩
    · go_wp2_with fail
      go_ret
      exact ⟨rfl, B4⟩
    · have ha : ae = false := by rw [← AE.out]; exact hno cs HCS.out
      clear hno
      subst ha
      go_wp2_with fail
      go_ret
      exact ⟨rfl, B4⟩

set_option maxRecDepth 100000 in
theorem lifted (os : Os) (started : os.Started) (H : Type) (enc : TypeId × Value → H) :
    ReturnsInHanded {} Try.checked os 4 .any (Rows.fnCausesSpec.pre6 enc Try.prog Try.f4 Rows.fnCausesRow.domain false) (Rows.fnCausesSpec.post enc Try.prog Try.f4 false true false false) := by
  refine returnsInHanded_of_change (C := Try.checked) own started (by kernel_rfl) Try.func4
    (ChangeSpec.witness6 (enc := enc) (C := Try.checked) false ⟨#[], #[.slice none 0 0, .slice none 0 0], []⟩ 8 (by kernel_rfl) (by kernel_rfl) (by kernel_rfl) (by kernel_rfl)) ?_
  intro W base args ds gs before hval0 hW hcnd _
  have hval : ∀ (j : Nat) t v, Try.f4.params[j]? = some t → args[j]? = some v → Value.okWide Try.prog W .any base t v := hval0
  have hW' := hW
  obtain ⟨p, q, hA0, hV, rfl, hfz, hnd⟩ := hW
  have hA : DataW.TrodAll enc Try.prog W 0 (fun _ => true) true Try.f4.params.toList args.toList ds p := hA0
  rw [Try.params4] at hA hval
  obtain ⟨v0, vs0, d0, ds0, p0, q0, hargs, rfl, rfl, h0, r0⟩ := trodAll_cons hA
  obtain ⟨v1, vs1, d1, ds1, p1, q1, rfl, rfl, rfl, h1, r1⟩ := trodAll_cons r0
  obtain ⟨rfl, rfl, rfl⟩ := trodAll_nil r1
  obtain rfl : args = #[v0, v1] := by cases args; simp_all
  obtain ⟨rfl, rfl⟩ := trodVars_none hV
  have t0 := h0
  have lt0 : ∀ x ∈ p0, x.block < W.heap.size := by obtain ⟨m, hm⟩ := t0; exact DataW.trod_lt m _ _ _ hm
  obtain ⟨A0, n0, c0, rfl⟩ := okWide_slice Try.underlying28 (hval 0 28 v0 rfl rfl)
  have hR0 : BysRaw W A0 n0 := param_bys Try.underlying28 Try.underlying5 (by kernel_rfl) h0
  have t1 := h1
  have lt1 : ∀ x ∈ p1, x.block < W.heap.size := by obtain ⟨m, hm⟩ := t1; exact DataW.trod_lt m _ _ _ hm
  obtain ⟨A1, n1, c1, rfl⟩ := okWide_slice Try.underlying28 (hval 1 28 v1 rfl rfl)
  have hR1 : BysRaw W A1 n1 := param_bys Try.underlying28 Try.underlying5 (by kernel_rfl) h1
  clear hA0 hval0
  refine (walk A0 n0 c0 A1 n1 c1 W hR0 hR1).mono fun e W' ⟨he, bel⟩ => ?_
  subst he
  exact ⟨_, rfl, _, _, _, [], _, [], hW', trodAll_mk1 (shut_bool Try.underlying4 _), (trodAll_cons_mk (Below.trod laidOut (by kernel_rfl) (of_decide_eq_true (by kernel_rfl)) t0 bel lt0) (trodAll_cons_mk (Below.trod laidOut (by kernel_rfl) (of_decide_eq_true (by kernel_rfl)) t1 bel lt1) trodAll_mk0)), rfl, bel.frame _, fun h => by cases h⟩

theorem over : Rows.fnCausesRow.holds Try.pinned (OpenSpec.ofChange Rows.fnCausesSpec) :=
  OpenClaim.holds_of_wide 4 Try.f4 rfl rfl rfl rfl rfl rfl rfl ⟨rfl, rfl, rfl, rfl, rfl⟩ rfl rfl rfl rfl rfl (by kernel_rfl) Try.func4 (by kernel_rfl)
    (of_decide_eq_true (by kernel_rfl)) (by unfold Func.isWrapper; first | (rw [if_pos (by decide +kernel)]; kernel_rfl) | (rw [if_neg (by decide +kernel)]; exact ⟨rfl, rfl⟩))
    (fun os started H enc _ => lifted os started H enc)

theorem proved : Rows.FnCausesSaid := over
end Go.Proofs.Ytmapjepdcbpalaa.lawFnCauses
