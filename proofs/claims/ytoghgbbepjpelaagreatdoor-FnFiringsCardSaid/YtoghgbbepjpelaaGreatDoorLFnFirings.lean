/- FnFirings returns true for every input, and the argument reads afterwards as it read before; the listed tables hold what the program's text lays (tied). No condition. -/
import Derived.Test.YtoghgbbepjpelaaGreatDoorLB
import Derived.Test.YtoghgbbepjpelaaGreatDoorHD6
import Derived.Test.YtoghgbbepjpelaaGreatDoorX4
import Derived.Test.YtoghgbbepjpelaaGreatDoorFP
import Derived.Test.YtoghgbbepjpelaaGreatDoorSHeatRule
import Derived.Test.YtoghgbbepjpelaaGreatDoorHT5
import Derived.Test.YtoghgbbepjpelaaGreatDoorHsH
import Derived.Test.YtoghgbbepjpelaaGreatDoorTie
import Derived.Test.YtoghgbbepjpelaaGreatDoorCards
import Derived.Stop.Joined
import Derived.SevenTiedAt
import Derived.Lay
namespace Go.Proofs.YtoghgbbepjpelaaGreatDoor.lawFnFirings
open Go.ChangeShapes Go.WideShapes Go.ChangeAt Go.WideMaps Go.WideElems Go.RowKit Go.Joins
set_option linter.unusedVariables false

theorem own : ownKnob Tryz.prog.godebug = none := by kernel_rfl
theorem laidOut : laidOutB Tryz.prog = true := by kernel_rfl

theorem sameB_self (xs : List HeatRule) : HeatRule.sameB xs xs = true := HeatRule.sameB_yes rfl (fun k _ => by simp [HeatRule.eqB])
theorem fire_cases (ys : List HeatRule) (ds : List Int) {a c : Int} {t : ByteArray} (h : fireF ys ds = (a, t, c)) :
    (c = 0 ∧ a = -1 ∧ 1 ≤ ds.length ∧ ∃ few, lfhF ys (nth ds 0) = (few, 0) ∧ few ≤ (ds.length : Int) - 1) ∨ (c == 0) = false ∨ (c = 0 ∧ (a == -1) = false) := by
  unfold fireF at h
  split at h
  · rename_i g1
    split at h
    · rename_i g2
      obtain ⟨rfl, h2⟩ := Prod.mk.inj h
      obtain ⟨rfl, rfl⟩ := Prod.mk.inj h2
      by_cases hm : (ffF ys ds).1 = -1
      · exact .inl ⟨rfl, hm, (firB_parts g2).1, fast_least g1 g2 hm⟩
      · exact .inr (.inr ⟨rfl, by simpa using hm⟩)
    · obtain ⟨_, h2⟩ := Prod.mk.inj h
      obtain ⟨_, rfl⟩ := Prod.mk.inj h2
      exact .inr (.inl rfl)
  · obtain ⟨_, h2⟩ := Prod.mk.inj h
    obtain ⟨_, rfl⟩ := Prod.mk.inj h2
    exact .inr (.inl rfl)
theorem ffr_cases (xs : List HeatRule) (start : Int) {l : List Int} {c a b : Int} (h : ffrC xs start = c) (hl : ffrL xs start = l) (hh : lfhF xs start = (a, b)) :
    (c = 0 ∧ fireF xs l = (-1, ⟨#[]⟩, 0) ∧ a = (l.length : Int) - 1 ∧ 1 ≤ l.length) ∨ (c != 0) = true := by
  by_cases h0 : ffrC xs start = 0
  · obtain ⟨g1, g2, g3, g4⟩ := fast_good h0
    have e : l = fsEnd xs xs.length start := by rw [← hl, ffrL, if_pos h0]
    rw [lfhF, if_pos h0] at hh
    obtain ⟨rfl, _⟩ := Prod.mk.inj hh
    rw [e]
    exact .inl ⟨by rw [← h, h0], by rw [fireF, if_pos g1, if_pos g2, g3], rfl, g4⟩
  · exact .inr (by rw [← h]; simpa using h0)
theorem text_cases (ts : List HeatRule) : (∃ x, (rulesS ts).size = x ∧ 0 < x ∧ readL (rulesS ts).data.toList = ts ∧ readB (rulesS ts).data.toList = true) ∨ (rulesS ts = ⟨#[]⟩ ∧ readB (rulesS ts).data.toList = false) := by
  rcases Bool.eq_false_or_eq_true (rulesOk ts) with g | g
  · refine .inl ⟨_, rfl, ?_⟩
    have e : (rulesS ts).data.toList = rulesT ts := by rw [rulesS_ok g]
    have hr := readRs_some (l := rulesT ts) ⟨g, rfl⟩
    refine ⟨?_, by rw [e, readL, hr]; rfl, by rw [e, readB, hr]; rfl⟩
    rw [Lib.size_eq, e]
    cases hc : rulesT ts with
    | nil =>
      exfalso
      have hx : IsRs [] ts := ⟨g, hc⟩
      have h2 := hx.words
      rw [wordsI_nil] at h2
      have hl := (ok_len g).1
      have h3 := ReadW.reads (fun r hr => wordI_some (wide_mem g hr)) (k := 0) (show 0 < ts.length by omega)
      rw [← h2] at h3
      have h4 : nt [([] : List UInt8)] 0 = [] := rfl
      rw [h4, wordI_nil] at h3; cases h3
    | cons a b => simp
  · have e := rulesS_no g
    refine .inr ⟨e, ?_⟩
    rw [e]
    have hr : readRs [] = none := impl_bad (l := []) (k := 0) (by rw [wordsI_nil]; simp) (by rw [wordsI_nil]; exact wordI_nil)
    rw [readB, hr]; rfl

set_option maxRecDepth 100000 in
set_option maxHeartbeats 16000000 in
theorem walk (A0 : Option Addr) (n0 c0 : Nat) (w : World) (hR0 : BysRaw w A0 n0) (hE : HEnv w) :
    Calls Tryz.prog 3 #[.slice A0 n0 c0] w fun e w' => e = .returned (.bool true) ∧ Below w.heap.size w w' := by
  have hbd0 := hR0.1
  have HE := Lib.hid hE
  clear hE
  by_cases hbig : (4096 : Int) < n0
  · go_enter Tryz.func3, Tryz.ntmps3
    go_wp2_with fail
    refine (f6big_yes _ _ _ _ hbd0 hbig).mono ?_; rintro e w' ⟨rfl, rfl⟩
    go_wp2_with fail
    go_ret
    exact ⟨rfl, by go_grown⟩
  · have HB0 := Lib.hid (hR0.bys (by omega))
    clear hR0
    go_enter Tryz.func3, Tryz.ntmps3
    go_wp2_with fail
    refine (f6big_no _ _ _ _ (by omega)).mono ?_; rintro e w' ⟨rfl, rfl⟩
    go_wp2_with fail
    refine (drawFastestFire_any A0 n0 c0 _ HB0.out).mono ?_; rintro e w1 ⟨A1, n1, c1, xs, start, rfl, hX, hn1, B1⟩
    have HX1 := Lib.hid hX
    obtain ⟨fl, hfl⟩ : ∃ l, ffrL xs start = l := ⟨_, rfl⟩
    obtain ⟨fc, hfc⟩ : ∃ l, ffrC xs start = l := ⟨_, rfl⟩
    obtain ⟨lv, lc, hlf⟩ : ∃ a b, lfhF xs start = (a, b) := ⟨_, _, rfl⟩
    have D1 := Lib.hid (ffr_cases xs start hfc hfl hlf)
    have H1 := Lib.hid (fun W hW => implFastestFire_any A1 n1 c1 xs start W hW)
    have H2 := Lib.hid (fun W hW => specFastestFire_any A1 n1 c1 xs start W hW)
    have H3 := Lib.hid (fun W hW => implLeastFireHours_any A1 n1 c1 xs start W hW)
    have H4 := Lib.hid (fun W hW => specLeastFireHours_any A1 n1 c1 xs start W hW)
    rw [hfl, hfc] at H1 H2
    rw [hlf] at H3 H4
    clear hfl hfc hlf hX
    go_wp2_with fail
    refine (H1.out _ HX1.out).mono ?_; rintro e w2 ⟨A2, n2, c2, rfl, hI2, _, _, hb2⟩
    have B2 := bel_tr B1 hb2
    have HX2 := Lib.hid (HX1.out.below hb2)
    have HI2 := Lib.hid hI2
    clear hI2 hb2 HX1 B1
    go_wp2_with fail
    refine (H2.out _ HX2.out).mono ?_; rintro e w3 ⟨A3, n3, c3, rfl, hI3, _, _, hb3⟩
    have B3 := bel_tr B2 hb3
    have HX3 := Lib.hid (HX2.out.below hb3)
    have HI3 := Lib.hid (HI2.out.below hb3)
    have HM3 := Lib.hid hI3
    have HNM := Lib.hid hI3.len
    have hn3 := hI3.bound
    clear hI3 hb3 HX2 HI2 B2
    go_wp2_with fail
    refine (H3.out _ HX3.out).mono ?_; rintro e w4 ⟨rfl, hb4⟩
    have HX4 := Lib.hid (HX3.out.below hb4)
    go_wp2_with fail
    refine (H4.out _ HX4.out).mono ?_; rintro e w5 ⟨rfl, hb5⟩
    have T5 := bel_tr hb4 hb5
    have B5 := bel_tr B3 T5
    have HX5 := Lib.hid (HX3.out.below T5)
    have HI5 := Lib.hid (HI3.out.below T5)
    have HM5 := Lib.hid (HM3.out.below T5)
    clear hb4 hb5 T5 HX3 HX4 HI3 HM3 B3 H1 H2 H3 H4
    go_wp2_with fail
    refine (drawFireFault_any A0 n0 c0 _ (HB0.out.below B5)).mono ?_; rintro e w6 ⟨A6, n6, c6, ys, D6, m6, d6, ds, rfl, hY, hn6, hDS, hm6, hb6⟩
    have B6 := bel_tr B5 hb6
    have HX6 := Lib.hid (HX5.out.below hb6)
    have HI6 := Lib.hid (HI5.out.below hb6)
    have HM6 := Lib.hid (HM5.out.below hb6)
    have HY6 := Lib.hid hY
    have HDS6 := Lib.hid hDS
    have HND := Lib.hid hDS.len
    obtain ⟨va, vt, vc, hff⟩ : ∃ a b c, fireF ys ds = (a, b, c) := ⟨_, _, _, rfl⟩
    have D2 := Lib.hid (fire_cases ys ds hff)
    have H1 := Lib.hid (fun W hW hD => hff ▸ implFireFault_any A6 n6 c6 ys D6 m6 d6 ds W hW hD)
    have H2 := Lib.hid (fun W hW hD => hff ▸ specFireFault_any A6 n6 c6 ys D6 m6 d6 ds W hW hD)
    clear hff hY hDS hb6 HX5 HI5 HM5 B5
    go_wp2_with fail
    refine (H1.out _ HY6.out HDS6.out).mono ?_; rintro e w7 ⟨rfl, hb7⟩
    have HY7 := Lib.hid (HY6.out.below hb7)
    have HDS7 := Lib.hid (HDS6.out.below hb7)
    go_wp2_with fail
    refine (H2.out _ HY7.out HDS7.out).mono ?_; rintro e w8 ⟨rfl, hb8⟩
    have T8 := bel_tr hb7 hb8
    have B8 := bel_tr B6 T8
    have HX8 := Lib.hid (HX6.out.below T8)
    have HI8 := Lib.hid (HI6.out.below T8)
    have HM8 := Lib.hid (HM6.out.below T8)
    have HY8 := Lib.hid (HY6.out.below T8)
    have HDS8 := Lib.hid (HDS6.out.below T8)
    clear hb7 hb8 T8 HX6 HI6 HM6 HY6 HY7 HDS6 HDS7 B6 H1 H2
    go_wp2_with fail
    refine (drawHeatRulesText_any A0 n0 c0 _ (HB0.out.below B8)).mono ?_; rintro e w9 ⟨A9, n9, c9, ts, rfl, hT, hn9, hb9⟩
    have B9 := bel_tr B8 hb9
    have HX9 := Lib.hid (HX8.out.below hb9)
    have HI9 := Lib.hid (HI8.out.below hb9)
    have HM9 := Lib.hid (HM8.out.below hb9)
    have HY9 := Lib.hid (HY8.out.below hb9)
    have HDS9 := Lib.hid (HDS8.out.below hb9)
    have HT9 := Lib.hid hT
    have TC := text_cases ts
    have H1 := Lib.hid (fun W hW hB => implHeatRulesText_any A9 n9 c9 ts W hW hB)
    have H5 := Lib.hid (fun W hW => specHeatRulesText_any A9 n9 c9 ts W hW)
    have hts : (rulesS ts).size ≤ 1048576 := by
      rcases Bool.eq_false_or_eq_true (rulesOk ts) with g | g
      · rw [rulesS_ok g, Lib.size_eq]
        have h1 := rulesT_len (fun k hk => wide_of_ok g hk) ts.length (Nat.le_refl _)
        rw [List.take_of_length_le (Nat.le_refl _)] at h1
        have h2 := (ok_len g).2
        show (rulesT ts).toArray.toList.length ≤ _
        rw [List.toList_toArray]; omega
      · rw [rulesS_no g]; decide
    obtain ⟨T, hTT⟩ : ∃ T, rulesS ts = T := ⟨_, rfl⟩
    rw [hTT] at TC hts H1 H5
    obtain ⟨rl, hrl⟩ : ∃ l, readL T.data.toList = l := ⟨_, rfl⟩
    obtain ⟨rb, hrb⟩ : ∃ l, readB T.data.toList = l := ⟨_, rfl⟩
    have H2 := Lib.hid (fun W hW => implReadHeatRules_any T W hts hW)
    rw [hrl, hrb] at H2 TC
    have TC := Lib.hid TC
    clear hT hb9 hTT hrl hrb HX8 HI8 HM8 HY8 HDS8 B8
    go_wp2_with fail
    refine (H1.out _ HT9.out (HE.out.tab.below B9)).mono ?_; rintro e w10 ⟨rfl, hb10⟩
    have B10 := bel_tr B9 hb10
    clear H1
    go_wp2_with fail
    refine (H2.out _ (HE.out.below B10)).mono ?_; rintro e w11 ⟨A11, n11, c11, rfl, hR11, _, _, hb11⟩
    have T11 := bel_tr hb10 hb11
    have B11 := bel_tr B9 T11
    have HX11 := Lib.hid (HX9.out.below T11)
    have HI11 := Lib.hid (HI9.out.below T11)
    have HM11 := Lib.hid (HM9.out.below T11)
    have HY11 := Lib.hid (HY9.out.below T11)
    have HDS11 := Lib.hid (HDS9.out.below T11)
    have HT11 := Lib.hid (HT9.out.below T11)
    have HR11 := Lib.hid hR11
    clear hR11 hb10 hb11 T11 HX9 HI9 HM9 HY9 HDS9 HT9 H2 B9 B10
    go_wp2_with fail
    refine (drawReadHeatRules_any A0 n0 c0 _ (HB0.out.below B11)).mono ?_; rintro e w12 ⟨s, rfl, hs, hb12⟩
    have B12 := bel_tr B11 hb12
    obtain ⟨ul, hul⟩ : ∃ l, readL s.data.toList = l := ⟨_, rfl⟩
    obtain ⟨ub, hub⟩ : ∃ l, readB s.data.toList = l := ⟨_, rfl⟩
    have H1 := Lib.hid (fun W hW => implReadHeatRules_any s W (by omega) hW)
    have H2 := Lib.hid (fun W => specReadHeatRules_any s W (by omega))
    rw [hul, hub] at H1 H2
    clear hul hub
    go_wp2_with fail
    refine (H1.out _ (HE.out.below B12)).mono ?_; rintro e w13 ⟨A13, n13, c13, rfl, hU13, _, _, hb13⟩
    have B13 := bel_tr B12 hb13
    have HU13 := Lib.hid hU13
    clear hU13
    go_wp2_with fail
    refine (H2.out _).mono ?_; rintro e w14 ⟨A14, n14, c14, rfl, hV14, _, _, hb14⟩
    have T14 := bel_tr (bel_tr hb12 hb13) hb14
    have B14 := bel_tr B11 T14
    have HX14 := Lib.hid (HX11.out.below T14)
    have HI14 := Lib.hid (HI11.out.below T14)
    have HM14 := Lib.hid (HM11.out.below T14)
    have HY14 := Lib.hid (HY11.out.below T14)
    have HDS14 := Lib.hid (HDS11.out.below T14)
    have HT14 := Lib.hid (HT11.out.below T14)
    have HR14 := Lib.hid (HR11.out.below T14)
    have HU14 := Lib.hid (HU13.out.below hb14)
    have HV14 := Lib.hid hV14
    clear hV14 hb12 hb13 hb14 T14 HX11 HI11 HM11 HY11 HDS11 HT11 HR11 HU13 H1 H2 B11 B12 B13
    go_wp2_with fail
    refine (drawSameHeatRules_any A0 n0 c0 _ (HB0.out.below B14)).mono ?_; rintro e w15 ⟨A15, n15, c15, ps, A16, n16, c16, qs, rfl, hP, hQ, hb15⟩
    have B15 := bel_tr B14 hb15
    have HX := Lib.hid (HX14.out.below hb15)
    have HI := Lib.hid (HI14.out.below hb15)
    have HM := Lib.hid (HM14.out.below hb15)
    have HY := Lib.hid (HY14.out.below hb15)
    have HDS := Lib.hid (HDS14.out.below hb15)
    have HT := Lib.hid (HT14.out.below hb15)
    have HR := Lib.hid (HR14.out.below hb15)
    have HU := Lib.hid (HU14.out.below hb15)
    have HV := Lib.hid (HV14.out.below hb15)
    have HP := Lib.hid hP
    have HQ := Lib.hid hQ
    have K1 := Lib.hid (fun W hP hQ => implSameHeatRules_any A15 n15 c15 ps A16 n16 c16 qs W hP hQ)
    have K2 := Lib.hid (fun W hP hQ => specSameHeatRules_any A15 n15 c15 ps A16 n16 c16 qs W hP hQ)
    have K3 := Lib.hid (fun W hW => implValidHeatRules_any A9 n9 c9 ts W hW)
    have K4 := Lib.hid (fun W hW => specValidHeatRules_any A9 n9 c9 ts W hW)
    obtain ⟨sb, hsb⟩ : ∃ b, HeatRule.sameB ps qs = b := ⟨_, rfl⟩
    obtain ⟨vb, hvb⟩ : ∃ b, rulesOk ts = b := ⟨_, rfl⟩
    rw [hsb] at K1 K2
    rw [hvb] at K3 K4
    have K5 := fun W hU hV => specSameHeatRules_any A13 n13 c13 ul A14 n14 c14 ul W hU hV
    rw [sameB_self] at K5
    have K5 := Lib.hid K5
    have e1 : (fc != fc) = false := by simp
    clear hP hQ hb15 hsb hvb HX14 HI14 HM14 HY14 HDS14 HT14 HR14 HU14 HV14 B14 HB0
    go_upto_region 18 with fail
    go_cut [194] (fun v wx => v = .bool false ∧ Below w15.heap.size w15 wx)
    case first =>
      rcases TC.out with ⟨x, hx, hx0, rfl, rfl⟩ | ⟨rfl, rfl⟩
      · as_aux_lemma =>
          have t2 : ¬ T.toList = [] := fun h => by rw [Lib.size_eq, ← Lib.toList_data, h] at hx; simp at hx; omega
          have t3 : (!T.toList.isEmpty) = true := by simpa using t2
          have K6 := fun W hR hT => specSameHeatRules_any A11 n11 c11 rl A9 n9 c9 rl W hR hT
          rw [sameB_self] at K6
          have K6 := Lib.hid K6
          clear hx TC
          go_wp2_with fail
          refine (f6ints_yes _ _ _ _ _ _ fl _ HI.out HM.out).mono ?_; rintro e w16 ⟨rfl, hb16⟩
          have HT16 := Lib.hid (HT.out.below hb16)
          go_wp2_with fail
          refine (H5.out _ HT16.out).mono ?_; rintro e w17 ⟨rfl, hb17⟩
          have T17 := bel_tr hb16 hb17
          have HT17 := Lib.hid (HT.out.below T17)
          have HR17 := Lib.hid (HR.out.below T17)
          clear hb16 hb17 HT16
          go_wp2_with fail
          refine (K6.out _ HR17.out HT17.out).mono ?_; rintro e w18 ⟨rfl, hb18⟩
          have T18 := bel_tr T17 hb18
          clear hb18
          go_wp2_with fail
          refine (K5.out _ (HU.out.below T18) (HV.out.below T18)).mono ?_; rintro e w19 ⟨rfl, hb19⟩
          have T19 := bel_tr T18 hb19
          clear hb19 T18 T17
          go_wp2_with fail
          refine (K1.out _ (HP.out.below T19) (HQ.out.below T19)).mono ?_; rintro e w20 ⟨rfl, hb20⟩
          have T20 := bel_tr T19 hb20
          clear hb20 T19
          go_wp2_with fail
          refine (K2.out _ (HP.out.below T20) (HQ.out.below T20)).mono ?_; rintro e w21 ⟨rfl, hb21⟩
          have T21 := bel_tr T20 hb21
          clear hb21 T20
          go_wp2_with fail
          refine (K3.out _ (HT.out.below T21)).mono ?_; rintro e w22 ⟨rfl, hb22⟩
          have T22 := bel_tr T21 hb22
          clear hb22 T21
          go_wp2_with fail
          refine (K4.out _ (HT.out.below T22)).mono ?_; rintro e w23 ⟨rfl, hb23⟩
          have T23 := bel_tr T22 hb23
          clear hb23 T22
          go_wp2_with fail
          go_meet
          exact ⟨rfl, T23⟩
      · as_aux_lemma =>
          have K6 := 0
          clear TC
          go_wp2_with fail
          refine (f6ints_yes _ _ _ _ _ _ fl _ HI.out HM.out).mono ?_; rintro e w16 ⟨rfl, hb16⟩
          have HT16 := Lib.hid (HT.out.below hb16)
          go_wp2_with fail
          refine (H5.out _ HT16.out).mono ?_; rintro e w17 ⟨rfl, hb17⟩
          have T17 := bel_tr hb16 hb17
          have HT17 := Lib.hid (HT.out.below T17)
          have HR17 := Lib.hid (HR.out.below T17)
          clear hb16 hb17 HT16
          go_wp2_with fail
          have T18 := T17
          obtain ⟨w18, rfl⟩ : ∃ u : World, u = w17 := ⟨_, rfl⟩
          refine (K5.out _ (HU.out.below T18) (HV.out.below T18)).mono ?_; rintro e w19 ⟨rfl, hb19⟩
          have T19 := bel_tr T18 hb19
          clear hb19 T18 T17
          go_wp2_with fail
          refine (K1.out _ (HP.out.below T19) (HQ.out.below T19)).mono ?_; rintro e w20 ⟨rfl, hb20⟩
          have T20 := bel_tr T19 hb20
          clear hb20 T19
          go_wp2_with fail
          refine (K2.out _ (HP.out.below T20) (HQ.out.below T20)).mono ?_; rintro e w21 ⟨rfl, hb21⟩
          have T21 := bel_tr T20 hb21
          clear hb21 T20
          go_wp2_with fail
          refine (K3.out _ (HT.out.below T21)).mono ?_; rintro e w22 ⟨rfl, hb22⟩
          have T22 := bel_tr T21 hb22
          clear hb22 T21
          go_wp2_with fail
          refine (K4.out _ (HT.out.below T22)).mono ?_; rintro e w23 ⟨rfl, hb23⟩
          have T23 := bel_tr T22 hb23
          clear hb23 T22
          go_wp2_with fail
          go_meet
          exact ⟨rfl, T23⟩
    case rest =>
      as_aux_lemma =>
        obtain ⟨rfl, T23⟩ := hcut
        obtain ⟨w23, rfl⟩ : ∃ u : World, u = wc := ⟨_, rfl⟩
        have B23 := bel_tr B15 T23
        have HX23 := Lib.hid (HX.out.below T23)
        have HM23 := Lib.hid (HM.out.below T23)
        have HY23 := Lib.hid (HY.out.below T23)
        have HDS23 := Lib.hid (HDS.out.below T23)
        clear T23 HX HI HM HY HDS HT HR HU HV HP HQ H5 K1 K2 K3 K4 K5 TC
        go_upto_region 20 with fail
        go_cut [200] (fun v wx => ∃ tb, v = .bool tb ∧ (tb = true → vc = 0 ∧ va = -1) ∧ Below w23.heap.size w23 wx)
        case first =>
          rcases D2.out with ⟨rfl, rfl, hds, few, hlf, hfew⟩ | hne | ⟨rfl, hne⟩
          · clear hds hlf hfew
            go_wp2_with fail
            go_meet
            exact ⟨true, rfl, fun _ => ⟨rfl, rfl⟩, Below.refl _ _⟩
          · go_wp2_with fail
            go_meet
            exact ⟨false, rfl, fun h => (by cases h), Below.refl _ _⟩
          · go_wp2_with fail
            go_meet
            exact ⟨false, rfl, fun h => (by cases h), Below.refl _ _⟩
        case rest =>
          obtain ⟨tb, rfl, himp, hcb⟩ := hcut
          obtain ⟨w24, rfl⟩ : ∃ u : World, u = wc := ⟨_, rfl⟩
          have B24 := bel_tr B23 hcb
          have HX24 := Lib.hid (HX23.out.below hcb)
          have HM24 := Lib.hid (HM23.out.below hcb)
          have HY24 := Lib.hid (HY23.out.below hcb)
          have HDS24 := Lib.hid (HDS23.out.below hcb)
          have HIMP := Lib.hid himp
          clear hcb himp HX23 HM23 HY23 HDS23
          go_upto_if 200 with fail
          go_cut [32, 33] (fun _ _ wx => Below w24.heap.size w24 wx)
          case first =>
            cases tb with
            | true =>
              obtain ⟨rfl, rfl⟩ := HIMP.out rfl
              rcases D2.out with ⟨_, _, hds, few, hlf, hfew⟩ | hne | ⟨_, hne⟩
              · have H1 := Lib.hid (fun W hW => hlf ▸ implLeastFireHours_any A6 n6 c6 ys (nth ds 0) W hW)
                have hm1 : 0 < m6 := by have := HND.out; omega
                have hm2 : (0 : Int) < (m6 : Int) := by omega
                obtain ⟨bb, off, rfl, _, hcell⟩ := HDS24.out.cell hm1
                have hck := hcell 0 hm1
                rw [Nat.add_zero] at hck
                have g1 : decide ((m6 : Int) - 1 < few) = false := decide_eq_false (by have := HND.out; omega)
                clear hcell hlf hfew
                go_wp2_with fail
                refine (H1.out _ HY24.out).mono ?_; rintro e w25 ⟨rfl, hb25⟩
                clear H1
                go_wp2_with fail
                go_meet
                exact hb25
              · exact absurd hne (by decide)
              · exact absurd hne (by decide)
            | false =>
              go_wp2_with fail
              go_meet
              exact Below.refl _ _
          case rest =>
            obtain ⟨w25, rfl⟩ : ∃ u : World, u = wc := ⟨_, rfl⟩
            have B25 := bel_tr B24 hcut
            rcases D1.out with ⟨rfl, hff, hlv, hfl1⟩ | hne
            · have H1 := Lib.hid (fun W hW hD => hff ▸ implFireFault_any A1 n1 c1 xs A3 n3 c3 fl W hW hD)
              have g1 : (lv == (n3 : Int) - 1) = true := by rw [hlv, ← HNM.out]; simp
              clear hff hlv
              have HX25 := Lib.hid (HX24.out.below hcut)
              have HM25 := Lib.hid (HM24.out.below hcut)
              clear hcut
              go_wp2_with fail
              refine (H1.out _ HX25.out HM25.out).mono ?_; rintro e w26 ⟨rfl, hb26⟩
              have B26 := bel_tr B25 hb26
              clear H1 hb26
              go_wp2_with fail
              go_ret
              exact ⟨ret_bool (by simp), B26⟩
            · go_wp2_with fail
              go_ret
              exact ⟨rfl, B25⟩

set_option maxRecDepth 100000 in
theorem lifted (os : Os) (started : os.Started) (H : Type) (enc : TypeId × Value → H) :
    ReturnsInHanded {} Tryz.checked os 3 .any (fun w args => (Rows.fnFiringsSpec.pre enc Tryz.prog Tryz.f3 [] false w args ∧ laidMetH Tryz.prog Rows.fnFiringsRow.laid w) ∧ sizedMet enc Tryz.prog Tryz.f3 (OpenSpec.ofChange Rows.fnFiringsSpec) false w args)
      (Rows.fnFiringsSpec.post enc Tryz.prog Tryz.f3 false true false false) := by
  refine handed_shaped (C := Tryz.checked) (X := fun w _ => laidMetH Tryz.prog Rows.fnFiringsRow.laid w) (fun _ _ _ hh h => h.of_heap hh) own started (by kernel_rfl) Tryz.func3
    (ChangeSpec.witness_shaped (enc := enc) (C := Tryz.checked) (os := os) (X := fun w _ => laidMetH Tryz.prog Rows.fnFiringsRow.laid w) false (World.laidAll Tryz.prog os Rows.fnFiringsRow.laid) #[.slice none 0 0] 8 (World.laidAll_os _ _ _) (World.shaped_of_ZipB (by kernel_rfl) (by kernel_rfl)) (by kernel_rfl) (by kernel_rfl) (by kernel_rfl) (by rw [MakeChecks.laidMetH_plain _ _ _ (by kernel_rfl)]; exact laidMet_laidAll _ (by kernel_rfl) (by kernel_rfl))) ?_
  intro W base args ds gs before hval0 hW hL hSh
  have hval : ∀ (j : Nat) t v, Tryz.f3.params[j]? = some t → args[j]? = some v → Value.okWide Tryz.prog W .any base t v := hval0
  have hW' := hW
  obtain ⟨p, q, hA0, hV, rfl, hfz, hnd⟩ := hW
  have hA : DataW.TrodAll enc Tryz.prog W 0 (fun _ => true) true Tryz.f3.params.toList args.toList ds p := hA0
  rw [Tryz.params3] at hA hval
  obtain ⟨v0, vs0, d0, ds0, p0, q0, hargs, rfl, rfl, h0, r0⟩ := trodAll_cons hA
  obtain ⟨rfl, rfl, rfl⟩ := trodAll_nil r0
  obtain rfl : args = #[v0] := by cases args; simp_all
  obtain ⟨rfl, rfl⟩ := trodVars_none hV
  have t0 := h0
  have lt0 : ∀ x ∈ p0, x.block < W.heap.size := by obtain ⟨m, hm⟩ := t0; exact DataW.trod_lt m _ _ _ hm
  obtain ⟨A0, n0, c0, rfl⟩ := okWide_slice Tryz.underlying22 (hval 0 22 v0 rfl rfl)
  have hR0 : BysRaw W A0 n0 := param_bys Tryz.underlying22 Tryz.underlying5 (by kernel_rfl) h0
  have hL0 : laidMet Tryz.prog Rows.fnFiringsRow.laid W := by rw [MakeChecks.laidMetH_plain _ _ _ (by kernel_rfl)] at hL; exact hL
  have hE : HEnv W := ⟨tab_of hL0.tail.tail, errs_of hL0.tail.tail.tail.tail, maxl_of hSh⟩
  clear hA0 hval0
  refine (walk A0 n0 c0 W hR0 hE).mono fun e W' ⟨he, bel⟩ => ?_
  subst he
  exact ⟨_, rfl, _, _, _, [], _, [], hW', trodAll_mk1 (shut_bool Tryz.underlying4 _), (trodAll_cons_mk (Below.trod laidOut (by kernel_rfl) (of_decide_eq_true (by kernel_rfl)) t0 bel lt0) trodAll_mk0), rfl, bel.frame _, fun h => by cases h⟩

theorem row_holds : Rows.FnFiringsSaid :=
  OpenClaim.holds_of_wide 3 Tryz.f3 rfl rfl rfl rfl rfl rfl rfl ⟨rfl, rfl, rfl, rfl, rfl⟩ rfl rfl rfl rfl rfl (by kernel_rfl) Tryz.func3 (by kernel_rfl)
    (of_decide_eq_true (by kernel_rfl)) (by unfold Func.isWrapper; first | (rw [if_pos (by decide +kernel)]; kernel_rfl) | (rw [if_neg (by decide +kernel)]; exact ⟨rfl, rfl⟩))
    (fun os started H enc _ => lifted os started H enc)

theorem proved : Rows.FnFiringsCardSaid :=
  Claim7.holds_tied_plain_at .later [] [.data, .data, .data, .data, .sentinel, .sentinel, .pinned] true Rows.fnFiringsCard.stood.harness true
    row_holds (fun _ h => by cases h) (by kernel_rfl) (fun _ h => by cases h) fnFirings_row_tie rfl ⟨rfl, rfl⟩ (by kernel_rfl) rfl
    (fun f fn hf hfn => by
      obtain rfl : f = 3 := Option.some.inj ((show Tryz.prog.funcNamed "loop.example/g01042/laws.FnFirings" = some 3 by kernel_rfl).symm.trans hf) |>.symm
      obtain rfl : fn = Tryz.f3 := (Option.some.inj (Tryz.func3.symm.trans hfn)).symm
      exact ⟨by kernel_rfl, fun j t ht => by
        rw [Tryz.params3] at ht
        have hm : t ∈ [22] := by simpa using Array.mem_of_getElem? ht
        have hall : ([22].all fun u => !Tryz.prog.wantsStandIn u) = true := by kernel_rfl
        exact (show Tryz.prog.wantsStandIn t = false by simpa using List.all_eq_true.1 hall t hm)⟩)
    (by kernel_rfl)
end Go.Proofs.YtoghgbbepjpelaaGreatDoor.lawFnFirings
