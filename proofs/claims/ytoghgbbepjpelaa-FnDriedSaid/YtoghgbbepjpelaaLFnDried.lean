/- FnDried returns true for every input, and the argument reads afterwards as it read before. No condition. -/
import Derived.Test.YtoghgbbepjpelaaLB
import Derived.Test.YtoghgbbepjpelaaRD5
import Derived.Test.YtoghgbbepjpelaaDrP
namespace Go.Proofs.Ytoghgbbepjpelaa.lawFnDried
open Go.ChangeShapes Go.WideShapes Go.ChangeAt Go.RowKit Go.Joins
open Go.ChangeMaps (open_string shut_string)
set_option linter.unusedVariables false

theorem own : ownKnob Try.prog.godebug = none := by kernel_rfl
theorem laidOut : laidOutB Try.prog = true := by kernel_rfl

set_option maxRecDepth 100000 in
set_option maxHeartbeats 16000000 in
theorem walk (A0 : Option Addr) (n0 c0 : Nat) (w : World) (hR0 : BysRaw w A0 n0) :
    Calls Try.prog 5 #[.slice A0 n0 c0] w fun e w' => e = .returned (.bool true) ∧ Below w.heap.size w w' := by
  have hbd0 := hR0.1
  by_cases hbig : (4096 : Int) < n0
  · go_enter Try.func5, Try.ntmps5
    go_wp2_with fail
    refine (f6big_yes _ _ _ _ hbd0 hbig).mono ?_; rintro e w' ⟨rfl, rfl⟩
    go_wp2_with fail
    go_ret
    exact ⟨rfl, by go_grown⟩
  · have HB0 := Lib.hid (hR0.bys (by omega))
    clear hR0
    go_enter Try.func5, Try.ntmps5
    go_wp2_with fail
    refine (f6big_no _ _ _ _ (by omega)).mono ?_; rintro e w' ⟨rfl, rfl⟩
    go_wp2_with fail
    refine (drawDryOn_any A0 n0 c0 _ HB0.out).mono ?_; rintro e w1 ⟨s1, a1, needs, rfl, hs1, B1⟩
    obtain ⟨dv, dc, hd⟩ : ∃ a b, dryF s1 a1 needs = (a, b) := ⟨_, _, rfl⟩
    have D1 := Lib.hid (dry_cases s1 a1 needs hd)
    have H1 := Lib.hid (fun W => hd ▸ implDryOn_any s1 a1 needs W (by omega))
    have H2 := Lib.hid (fun W => hd ▸ specDryOn_any s1 a1 needs W (by omega))
    clear hd
    go_wp2_with fail
    refine (H1.out _).mono ?_; rintro e w2 ⟨rfl, hb2⟩
    have B2 := bel_tr B1 hb2
    go_wp2_with fail
    refine (H2.out _).mono ?_; rintro e w3 ⟨rfl, hb3⟩
    have B3 := bel_tr B2 hb3
    clear hb2 hb3 H1 H2 B1 B2
    go_wp2_with fail
    refine (drawPointsBetween_any A0 n0 c0 _ (HB0.out.below B3)).mono ?_; rintro e w4 ⟨s4, f4, t4, rfl, hs4, hb4⟩
    have B4 := bel_tr B3 hb4
    obtain ⟨pv, pc, hp⟩ : ∃ a b, pbF s4 f4 t4 = (a, b) := ⟨_, _, rfl⟩
    have D2 := Lib.hid (pb_cases s4 f4 t4 hp)
    have H1 := Lib.hid (fun W => hp ▸ implPointsBetween_any s4 f4 t4 W (by omega))
    have H2 := Lib.hid (fun W => hp ▸ specPointsBetween_any s4 f4 t4 W (by omega))
    clear hp hb4
    go_wp2_with fail
    refine (H1.out _).mono ?_; rintro e w5 ⟨rfl, hb5⟩
    have B5 := bel_tr B4 hb5
    go_wp2_with fail
    refine (H2.out _).mono ?_; rintro e w6 ⟨rfl, hb6⟩
    have B6 := bel_tr B5 hb6
    clear hb5 hb6 H1 H2 B4 B5 B3
    obtain ⟨ol, hol⟩ : ∃ l, poL s4 = l := ⟨_, rfl⟩
    obtain ⟨oc, hoc⟩ : ∃ l, poC s4 = l := ⟨_, rfl⟩
    have HOL := Lib.hid hol; have HOC := Lib.hid hoc
    have H1 := Lib.hid (fun W => implPointsOf_any s4 W (by omega))
    have H2 := Lib.hid (fun W => specPointsOf_any s4 W (by omega))
    rw [hol, hoc] at H1 H2
    clear hol hoc
    go_wp2_with fail
    refine (H1.out _).mono ?_; rintro e w7 ⟨A7, n7, c7, rfl, hI7, _, _, hb7⟩
    have B7 := bel_tr B6 hb7
    have HI7 := Lib.hid hI7
    clear hI7
    go_wp2_with fail
    refine (H2.out _).mono ?_; rintro e w8 ⟨A8, n8, c8, rfl, hI8, _, _, hb8⟩
    have B8 := bel_tr B7 hb8
    have HI8 := Lib.hid (HI7.out.below hb8)
    have HJ8 := Lib.hid hI8
    have HN8 := Lib.hid hI8.len
    clear hI8 hb7 hb8 H1 H2 HI7 B6 B7
    go_wp2_with fail
    refine (drawReadyRacks_any A0 n0 c0 _ (HB0.out.below B8)).mono ?_; rintro e w9 ⟨A9, n9, c9, xs, s9, d9, rfl, hX, hn9, hs9, hb9⟩
    have B9 := bel_tr B8 hb9
    have HI9 := Lib.hid (HI8.out.below hb9)
    have HJ9 := Lib.hid (HJ8.out.below hb9)
    have HX9 := Lib.hid hX
    have HNX := Lib.hid hX.len
    obtain ⟨rl, hrl⟩ : ∃ l, rrL xs s9 d9 = l := ⟨_, rfl⟩
    obtain ⟨rc, hrc⟩ : ∃ l, rrC xs s9 d9 = l := ⟨_, rfl⟩
    obtain ⟨bl, hbl⟩ : ∃ l, dbL xs s9 = l := ⟨_, rfl⟩
    obtain ⟨bc, hbc⟩ : ∃ l, bothC xs s9 = l := ⟨_, rfl⟩
    obtain ⟨fv, fc, hf⟩ : ∃ a b, frF xs s9 = (a, b) := ⟨_, _, rfl⟩
    have D3 := rr_cases xs s9 d9 hrc
    rw [hrl, hbl] at D3
    have D3 := Lib.hid D3
    have H1 := Lib.hid (fun W hW => implReadyRacks_any A9 n9 c9 xs s9 d9 W hW (by omega))
    have H2 := Lib.hid (fun W hW => specReadyRacks_any A9 n9 c9 xs s9 d9 W hW (by omega))
    have H3 := Lib.hid (fun W hW => implDryBricks_any A9 n9 c9 xs s9 W hW (by omega))
    have H4 := Lib.hid (fun W hW => specDryBricks_any A9 n9 c9 xs s9 W hW (by omega))
    have H5 := Lib.hid (fun W hW => implFrostLoss_any A9 n9 c9 xs s9 W hW (by omega))
    have H6 := Lib.hid (fun W hW => specFrostLoss_any A9 n9 c9 xs s9 W hW (by omega))
    rw [hrl, hrc] at H1 H2
    rw [hbl, hbc] at H3 H4
    rw [hf] at H5 H6
    clear hrl hrc hbl hbc hf hX hb9 HI8 HJ8
    go_wp2_with fail
    refine (H1.out _ HX9.out).mono ?_; rintro e w10 ⟨A10, n10, c10, rfl, hI10, _, _, hb10⟩
    have B10 := bel_tr B9 hb10
    have HI10 := Lib.hid (HI9.out.below hb10)
    have HJ10 := Lib.hid (HJ9.out.below hb10)
    have HX10 := Lib.hid (HX9.out.below hb10)
    have HR10 := Lib.hid hI10
    clear hI10 hb10 HI9 HJ9 HX9
    go_wp2_with fail
    refine (H2.out _ HX10.out).mono ?_; rintro e w11 ⟨A11, n11, c11, rfl, hI11, _, _, hb11⟩
    have B11 := bel_tr B10 hb11
    have HI11 := Lib.hid (HI10.out.below hb11)
    have HJ11 := Lib.hid (HJ10.out.below hb11)
    have HX11 := Lib.hid (HX10.out.below hb11)
    have HR11 := Lib.hid (HR10.out.below hb11)
    have HS11 := Lib.hid hI11
    have HN11 := Lib.hid hI11.len
    clear hI11 hb11 HI10 HJ10 HX10 HR10
    go_wp2_with fail
    refine (H3.out _ HX11.out).mono ?_; rintro e w12 ⟨A12, n12, c12, rfl, hI12, _, _, hb12⟩
    have B12 := bel_tr B11 hb12
    have HI12 := Lib.hid (HI11.out.below hb12)
    have HJ12 := Lib.hid (HJ11.out.below hb12)
    have HX12 := Lib.hid (HX11.out.below hb12)
    have HR12 := Lib.hid (HR11.out.below hb12)
    have HS12 := Lib.hid (HS11.out.below hb12)
    have HD12 := Lib.hid hI12
    clear hI12 hb12 HI11 HJ11 HX11 HR11 HS11
    go_wp2_with fail
    refine (H4.out _ HX12.out).mono ?_; rintro e w13 ⟨A13, n13, c13, rfl, hI13, _, _, hb13⟩
    have B13 := bel_tr B12 hb13
    have HI13 := Lib.hid (HI12.out.below hb13)
    have HJ13 := Lib.hid (HJ12.out.below hb13)
    have HX13 := Lib.hid (HX12.out.below hb13)
    have HR13 := Lib.hid (HR12.out.below hb13)
    have HS13 := Lib.hid (HS12.out.below hb13)
    have HD13 := Lib.hid (HD12.out.below hb13)
    have HM13 := Lib.hid hI13
    have HN13 := Lib.hid hI13.len
    clear hI13 hb13 HI12 HJ12 HX12 HR12 HS12 HD12
    go_wp2_with fail
    refine (H5.out _ HX13.out).mono ?_; rintro e w14 ⟨rfl, hb14⟩
    have B14 := bel_tr B13 hb14
    have HX14 := Lib.hid (HX13.out.below hb14)
    go_wp2_with fail
    refine (H6.out _ HX14.out).mono ?_; rintro e w15 ⟨rfl, hb15⟩
    have B15 := bel_tr B14 hb15
    have T := bel_tr hb14 hb15
    have HI15 := Lib.hid (HI13.out.below T)
    have HJ15 := Lib.hid (HJ13.out.below T)
    have HX15 := Lib.hid (HX13.out.below T)
    have HR15 := Lib.hid (HR13.out.below T)
    have HS15 := Lib.hid (HS13.out.below T)
    have HD15 := Lib.hid (HD13.out.below T)
    have HM15 := Lib.hid (HM13.out.below T)
    clear hb14 hb15 T HI13 HJ13 HX13 HX14 HR13 HS13 HD13 HM13 H1 H2 H3 H4 H5 H6 B8 B9 B10 B11 B12 B13 B14 HB0
    go_wp2_with fail
    refine (f6ints_yes _ _ _ _ _ _ ol _ HI15.out HJ15.out).mono ?_; rintro e w16 ⟨rfl, hb16⟩
    have HR16 := Lib.hid (HR15.out.below hb16)
    have HS16 := Lib.hid (HS15.out.below hb16)
    go_wp2_with fail
    refine (f6ints_yes _ _ _ _ _ _ rl _ HR16.out HS16.out).mono ?_; rintro e w17 ⟨rfl, hb17⟩
    have T := bel_tr hb16 hb17
    go_wp2_with fail
    refine (f6ints_yes _ _ _ _ _ _ bl _ (HD15.out.below T) (HM15.out.below T)).mono ?_; rintro e w18 ⟨rfl, hb18⟩
    have T8 := bel_tr T hb18
    have B18 := bel_tr B15 T8
    have HJ := Lib.hid (HJ15.out.below T8)
    have HX := Lib.hid (HX15.out.below T8)
    have HS := Lib.hid (HS15.out.below T8)
    have HM := Lib.hid (HM15.out.below T8)
    clear hb16 hb17 hb18 T T8 HI15 HJ15 HX15 HR15 HS15 HD15 HM15 HR16 HS16 B15
    go_upto_if 202 with fail
    go_cut [36, 37] (fun _ _ wx => Below w18.heap.size w18 wx)
    case first =>
      rcases D2.out with ⟨rfl, hW, i, k, rfl, rfl, hik, hpv⟩ | hne
      · have hwb := weatherB_parts hW
        have hpl := (po_of hW).1
        rw [HOL.out] at hpl
        have hn8 : n8 = s4.size := by rw [← HN8.out, hpl, ptsL_len]
        have PL := Lib.hid (fun j (hj : j < s4.size) => (show nth ol j = ptAt s4 j by rw [hpl]; exact ptsL_nth s4 s4.size j hj))
        have WB := Lib.hid hW; have PV := Lib.hid hpv; have HN := Lib.hid hn8
        have hik8 : i + k ≤ n8 := by omega
        clear hW hpv hpl hwb hn8
        go_wp2_with fail
        go_loopw [36, 37] (fun v t wr => ∃ j : Nat, j ≤ k ∧ t = .int .i64 ((i : Int) + (j : Int)) ∧ v = .int .i64 (psW s4 i j) ∧ Below w18.heap.size w18 wr) (fun _ t _ => i + k - (intOf t).toNat)
        case atStart => exact ⟨0, Nat.zero_le _, by simp, rfl, Below.refl _ _⟩
        case round =>
          obtain ⟨j, hj, rfl, rfl, hb⟩ := hrel
          have hps := psW_bound WB.out i j
          have HB := Lib.hid hb
          by_cases hlt : j < k
          · obtain ⟨bb, off, rfl, _, hcell⟩ := (HJ.out.below hb).cell (by omega)
            have hck := hcell (i + j) (by omega)
            rw [PL.out (i + j) (by have := HN.out; omega)] at hck
            have hpt := (weatherB_parts WB.out).2 (i + j)
            have hpt2 := (ptAt_bound s4 (i + j)).2
            have E := Lib.hid (show psW s4 i (j + 1) = psW s4 i j + ptAt s4 (i + j) from rfl)
            have h60 := (weatherB_parts WB.out).1
            have g1 : (i : Int) + (j : Int) < (i : Int) + (k : Int) := by omega
            have g2 : ((i : Int) + (j : Int)).toNat = i + j := by omega
            have g3 : (0 : Int) ≤ (i : Int) + (j : Int) := by omega
            have g4 : (i : Int) + (j : Int) < (n8 : Int) := by omega
            clear hcell hb
            go_wp2_with fail
            go_roundw
            case rel => exact ⟨j + 1, by omega, by go_num, by rw [E.out], HB.out⟩
            case measure => simp [intOf]; omega
          · obtain rfl : k = j := by omega
            have E : (psW s4 i k != pv) = false := by rw [PV.out]; simp
            have g1 : ¬ (i : Int) + (k : Int) < (i : Int) + (k : Int) := by omega
            clear hb
            go_wp2_with fail
            go_meet
            exact HB.out
      · have hne2 : (pc == 0) = false := by simpa using hne
        go_wp2_with fail
        go_meet
        exact Below.refl _ _
    case rest =>
      obtain ⟨w19, rfl⟩ : ∃ u : World, u = wc := ⟨_, rfl⟩
      have B19 := bel_tr B18 hcut
      have HX19 := Lib.hid (HX.out.below hcut)
      have HS19 := Lib.hid (HS.out.below hcut)
      have HM19 := Lib.hid (HM.out.below hcut)
      clear hcut HJ HX HS HM
      go_upto_if 219 with fail
      go_cut [38, 39] (fun _ _ wx => Below w19.heap.size w19 wx)
      case first =>
        rcases D3.out with ⟨rfl, hok, D, rfl, hDl, hDv, hll, hmem⟩ | hne
        · have HSB := Lib.hid (hSum_bound hok hmem)
          have OK := Lib.hid hok; have DV := Lib.hid hDv; have MEM := Lib.hid hmem
          have hn11 := HN11.out
          have hD13 : D < n13 := by have := HN13.out; omega
          have hl11 : n11 ≤ 25 := by have := HNX.out; omega
          rw [hn11] at HSB MEM DV
          have HN := Lib.hid hn11
          clear hok hDv hmem hll hDl hn11
          go_wp2_with fail
          go_loopw [38, 39] (fun v t wr => ∃ j : Nat, j ≤ n11 ∧ t = .int .i64 (j : Int) ∧ v = .int .i64 (hSum xs rl j) ∧ Below w19.heap.size w19 wr) (fun _ t _ => n11 - (intOf t).toNat)
          case atStart => exact ⟨0, Nat.zero_le _, rfl, rfl, Below.refl _ _⟩
          case round =>
            obtain ⟨j, hj, rfl, rfl, hb⟩ := hrel
            have hps := HSB.out j hj
            have HB := Lib.hid hb
            by_cases hlt : j < n11
            · obtain ⟨q, hq, hqx⟩ := MEM.out j hlt
              have hq9 : q < n9 := by have := HNX.out; omega
              obtain ⟨bb, off, rfl, _, hcell⟩ := (HS19.out.below hb).cell (by omega)
              have hck := hcell j hlt
              rw [hq] at hck
              obtain ⟨bx, ox, rfl, _, hcx⟩ := (HX19.out.below hb).cell (by omega)
              obtain ⟨x0, x1, x2, x3⟩ := hcx q hq9
              have hho := okB_facts (racksOk_at OK.out hqx)
              have E := Lib.hid (show hSum xs rl (j + 1) = hSum xs rl j + (nt xs q).Holds by rw [hSum, hq, Int.toNat_natCast])
              have h1 := hho.2.1
              have h2 := hho.1
              clear hcell hcx hb hho hq
              go_wp2_with fail
              go_roundw
              case rel => exact ⟨j + 1, by omega, by go_num, by rw [E.out], HB.out⟩
              case measure => simp [intOf]; omega
            · obtain rfl : n11 = j := by omega
              obtain ⟨bb, off, rfl, _, hcell⟩ := (HM19.out.below hb).cell (by omega)
              have hck := hcell D hD13
              rw [DV.out] at hck
              clear hcell hb
              go_wp2_with fail
              go_meet
              exact HB.out
        · have hne2 : (rc == 0) = false := by simpa using hne
          go_wp2_with fail
          go_meet
          exact Below.refl _ _
      case rest =>
        obtain ⟨w20, rfl⟩ : ∃ u : World, u = wc := ⟨_, rfl⟩
        have B20 := bel_tr B19 hcut
        clear hcut HX19 HS19 HM19
        rcases D1.out with ⟨rfl, i, k, x, rfl, rfl, hpb, hx, hlast⟩ | hne
        · have H1 := Lib.hid (fun W => hpb ▸ implPointsBetween_any s1 i ((i : Int) + k) W (by omega))
          have g1 : decide (x < needs) = false := decide_eq_false (by omega)
          have LAST := Lib.hid hlast
          clear hpb hx hlast
          go_wp2_with fail
          refine (H1.out _).mono ?_; rintro e w21 ⟨rfl, hb21⟩
          have B21 := bel_tr B20 hb21
          clear H1 hb21
          rcases LAST.out with rfl | ⟨hk, y, hpb, hy⟩
          · have g2 : ((i : Int) + ((0 : Nat) : Int) == (i : Int)) = true := by simp
            go_wp2_with fail
            go_ret
            exact ⟨rfl, B21⟩
          · have g2 : ((i : Int) + (k : Int) == (i : Int)) = false := by rw [beq_eq_false_iff_ne]; omega
            have H1 := Lib.hid (fun W => hpb ▸ implPointsBetween_any s1 i ((i : Int) + k - 1) W (by omega))
            have g3 : decide (y < needs) = true := decide_eq_true hy
            have hb1 : (i : Int) + (k : Int) ≤ 62 := by
              unfold pbF at hpb
              split at hpb
              · split at hpb
                · rename_i h; simp only [Bool.and_eq_true, inB_true] at h; omega
                · cases hpb
              · cases hpb
            clear hpb hy
            go_wp2_with fail
            refine (H1.out _).mono ?_; rintro e w22 ⟨rfl, hb22⟩
            have B22 := bel_tr B21 hb22
            go_wp2_with fail
            go_ret
            exact ⟨rfl, B22⟩
        · go_wp2_with fail
          go_ret
          exact ⟨rfl, B20⟩

set_option maxRecDepth 100000 in
theorem lifted (os : Os) (started : os.Started) (H : Type) (enc : TypeId × Value → H) :
    ReturnsInHanded {} Try.checked os 5 .any (Rows.fnDriedSpec.pre6 enc Try.prog Try.f5 Rows.fnDriedRow.domain false) (Rows.fnDriedSpec.post enc Try.prog Try.f5 false true false false) := by
  refine returnsInHanded_of_change (C := Try.checked) own started (by kernel_rfl) Try.func5
    (ChangeSpec.witness6 (enc := enc) (C := Try.checked) false ⟨#[], #[.slice none 0 0], []⟩ 8 (by kernel_rfl) (by kernel_rfl) (by kernel_rfl) (by kernel_rfl)) ?_
  intro W base args ds gs before hval0 hW hcnd _
  have hval : ∀ (j : Nat) t v, Try.f5.params[j]? = some t → args[j]? = some v → Value.okWide Try.prog W .any base t v := hval0
  have hW' := hW
  obtain ⟨p, q, hA0, hV, rfl, hfz, hnd⟩ := hW
  have hA : DataW.TrodAll enc Try.prog W 0 (fun _ => true) true Try.f5.params.toList args.toList ds p := hA0
  rw [Try.params5] at hA hval
  obtain ⟨v0, vs0, d0, ds0, p0, q0, hargs, rfl, rfl, h0, r0⟩ := trodAll_cons hA
  obtain ⟨rfl, rfl, rfl⟩ := trodAll_nil r0
  obtain rfl : args = #[v0] := by cases args; simp_all
  obtain ⟨rfl, rfl⟩ := trodVars_none hV
  have t0 := h0
  have lt0 : ∀ x ∈ p0, x.block < W.heap.size := by obtain ⟨m, hm⟩ := t0; exact DataW.trod_lt m _ _ _ hm
  obtain ⟨A0, n0, c0, rfl⟩ := okWide_slice Try.underlying22 (hval 0 22 v0 rfl rfl)
  have hR0 : BysRaw W A0 n0 := param_bys Try.underlying22 Try.underlying5 (by kernel_rfl) h0
  clear hA0 hval0
  refine (walk A0 n0 c0 W hR0).mono fun e W' ⟨he, bel⟩ => ?_
  subst he
  exact ⟨_, rfl, _, _, _, [], _, [], hW', trodAll_mk1 (shut_bool Try.underlying4 _), (trodAll_cons_mk (Below.trod laidOut (by kernel_rfl) (of_decide_eq_true (by kernel_rfl)) t0 bel lt0) trodAll_mk0), rfl, bel.frame _, fun h => by cases h⟩

theorem over : Rows.fnDriedRow.holds Try.pinned (OpenSpec.ofChange Rows.fnDriedSpec) :=
  OpenClaim.holds_of_wide 5 Try.f5 rfl rfl rfl rfl rfl rfl rfl ⟨rfl, rfl, rfl, rfl, rfl⟩ rfl rfl rfl rfl rfl (by kernel_rfl) Try.func5 (by kernel_rfl)
    (of_decide_eq_true (by kernel_rfl)) (by unfold Func.isWrapper; first | (rw [if_pos (by decide +kernel)]; kernel_rfl) | (rw [if_neg (by decide +kernel)]; exact ⟨rfl, rfl⟩))
    (fun os started H enc _ => lifted os started H enc)

theorem proved : Rows.FnDriedSaid := over
end Go.Proofs.Ytoghgbbepjpelaa.lawFnDried
