/- FnTiles returns true for every input, and each argument reads afterwards as it read before. No condition. -/
import Derived.Test.YtoghgbbepjpelaaBp
import Derived.Test.YtoghgbbepjpelaaLA
import Derived.Test.YtoghgbbepjpelaaTL7
namespace Go.Proofs.Ytoghgbbepjpelaa.lawFnTiles
open Go.ChangeShapes Go.WideShapes Go.ChangeAt Go.RowKit Go.Joins
open Go.ChangeMaps (open_string shut_string)
set_option linter.unusedVariables false

theorem own : ownKnob Try.prog.godebug = none := by kernel_rfl
theorem laidOut : laidOutB Try.prog = true := by kernel_rfl

theorem first_at {W H n : Nat} {xs : List (List UInt8)} {w : World} {g : Nat} (hp : PatOk W H xs) (hR : RowsS w (some ⟨g, 0, none⟩) n xs) : ∃ s : ByteArray, s.size = W ∧ g < w.heap.size ∧ w.cell? ⟨g, 0, none⟩ = some (.string s) := by
  have hn : n = H := hp.cells hR
  have h1 := hp.h1
  obtain ⟨b, off, e, hb, hc⟩ := hR.cell (by omega)
  simp only [Option.some.injEq, Addr.mk.injEq, and_true] at e
  obtain ⟨rfl, rfl⟩ := e
  exact ⟨_, by rw [txt_size, hp.row 0 (by omega)], hb, hc 0 (by omega)⟩
/-- Quotients and remainders of a length by a length that divides it. -/
structure DivF (a b q : Nat) : Prop where
  pos : 1 ≤ q
  le : q ≤ a
  mul : q * b = a
  z0 : ((b : Int) == 0) = false
  z1 : ¬ (b : Int) = 0
  z2 : ¬ b = 0
  r1 : (a : Int).tmod (b : Int) = 0
  r2 : (a : Int) % (b : Int) = 0
  d1 : (a : Int).tdiv (b : Int) = (q : Int)
  d2 : (a : Int) / (b : Int) = (q : Int)
theorem DivF.mk' {a b : Nat} (hb : 1 ≤ b) (hle : b ≤ a) (h : a % b = 0) : DivF a b (a / b) := by
  have e : a / b * b = a := Nat.div_mul_cancel (Nat.dvd_of_mod_eq_zero h)
  have r2 : (a : Int) % (b : Int) = 0 := by omega
  have d2 : (a : Int) / (b : Int) = ((a / b : Nat) : Int) := by omega
  exact ⟨Nat.div_pos hle hb, Nat.div_le_self _ _, e, by rw [beq_eq_false_iff_ne]; omega, by omega, by omega, by rw [Int.tmod_eq_emod_of_nonneg (by omega)]; exact r2, r2, by rw [Int.tdiv_eq_ediv_of_nonneg (by omega)]; exact d2, d2⟩

set_option maxRecDepth 100000 in
set_option maxHeartbeats 8000000 in
theorem walk (A0 : Option Addr) (n0 c0 : Nat) (A1 : Option Addr) (n1 c1 : Nat) (w : World) (hR0 : BysRaw w A0 n0) (hR1 : BysRaw w A1 n1) :
    Calls Try.prog 4 #[.slice A0 n0 c0, .slice A1 n1 c1] w fun e w' => e = .returned (.bool true) ∧ Below w.heap.size w w' := by
  have hbd0 := hR0.1
  have hbd1 := hR1.1
  by_cases hbig : (3000 : Int) < n0 ∨ (3000 : Int) < n1
  · go_enter Try.func4, Try.ntmps4
    go_wp2_with fail
    refine (long_yes _ _ _ _ _ _ _ hbd0 hbd1 hbig).mono ?_; rintro e w' ⟨rfl, rfl⟩
    go_wp2_with fail
    go_ret
    exact ⟨rfl, by go_grown⟩
  · have hs0 : ¬ (3000 : Int) < n0 := fun h => hbig (.inl h)
    have hs1 : ¬ (3000 : Int) < n1 := fun h => hbig (.inr h)
    have HB0 := Lib.hid (hR0.bys (by omega))
    have HB1 := Lib.hid (hR1.bys (by omega))
    clear hbig hR0 hR1
    go_enter Try.func4, Try.ntmps4
    go_wp2_with fail
    refine (long_no _ _ _ _ _ _ _ (by omega) (by omega)).mono ?_; rintro e w' ⟨rfl, rfl⟩
    go_wp2_with fail
    refine (a2Pattern_any A0 n0 c0 _ HB0.out).mono ?_; rintro e w1 ⟨W, n, g, cap, xs, rfl, hp, hW12, hn9, hcap, hR, B1⟩
    have HP := Lib.hid hp
    have HR1 := Lib.hid hR
    have L := implLeastTile_any (some ⟨g, 0, none⟩) n cap W xs w1 hp hR hcap
    have hW1 := hp.w1; have hn1 := hp.h1
    have L := Lib.hid L
    clear hp hR
    go_wp2_with fail
    refine L.out.mono ?_; rintro e w2 ⟨wv, hv, g2, cap2, rfl, hLX, hLY, hR2, hb2⟩
    have HLX := Lib.hid hLX; have HLY := Lib.hid hLY
    have HT2 := Lib.hid hR2
    have HR2 := Lib.hid (HR1.out.below hb2)
    have B2 := bel_tr B1 hb2
    have HPT := Lib.hid (tile_ok HP.out hLX.one hLX.le hLY.one hLY.le)
    have DX := DivF.mk' hLX.one hLX.le hLX.div
    have DY := DivF.mk' hLY.one hLY.le hLY.div
    have hback := tile_back HP.out hLX hLY
    obtain ⟨qx, hqx⟩ : ∃ q, W / wv = q := ⟨_, rfl⟩
    obtain ⟨qy, hqy⟩ : ∃ q, n / hv = q := ⟨_, rfl⟩
    rw [hqx] at DX hback
    rw [hqy] at DY hback
    have HBACK := Lib.hid hback
    obtain ⟨sR, zR, lR, cR⟩ := first_at HP.out HR2.out
    obtain ⟨sT, zT, lT, cT⟩ := first_at HPT.out HT2.out
    clear hLX hLY hR2 hb2 L B1 HR1 hback hqx hqy
    subst zR zT
    have HDX := Lib.hid DX; have HDY := Lib.hid DY
    obtain ⟨px, lx, mx, x0, x1, x2, x3, x4, x5, x6⟩ := DX
    obtain ⟨py, ly, my, y0, y1, y2, y3, y4, y5, y6⟩ := DY
    have hhv0 : (0 : Int) < (hv : Int) := by omega
    have hn0' : (0 : Int) < (n : Int) := by omega
    have hnN : 0 < n := by omega
    have hvN : 0 < hv := by omega
    have VP := Lib.hid (fun X hX => specValidPattern_any (some ⟨g2, 0, none⟩) hv cap2 sT.size (tileF xs sT.size hv) X HPT.out hX)
    have bx : 1 ≤ sT.size := by omega
    have by' : 1 ≤ hv := by omega
    clear mx my
    go_upto_region 5 with fail
    go_cut [52] (fun v wx => v = .bool false ∧ Below w2.heap.size w2 wx)
    case first =>
      go_region_held3 (fun w' => w'.cell? ⟨g, 0, none⟩ = some (.string sR) ∧ w'.cell? ⟨g2, 0, none⟩ = some (.string sT) ∧ g < w'.heap.size ∧ g2 < w'.heap.size ∧ Below w2.heap.size w2 w')
        ((try refine ⟨?_, ?_, ?_, ?_, ?_⟩) <;> (first | go_keep | (go_grown; done) | (go_split_ands; first | exact (hb1.cell (p := ⟨_, _, none⟩) (by assumption)).trans (by assumption) | exact Nat.lt_of_lt_of_le (by assumption) hb1.size | exact bel_tr (by assumption) hb1)))
        ((go_at_call 25; refine (VP.out _ (HT2.out.below (by first | (go_grown; done) | (go_split_ands; assumption)))).mono ?_; rintro e wz ⟨rfl, hb1⟩))
      all_goals
        go_wp2_with fail
        go_meet
        refine ⟨rfl, ?_⟩
        go_split_ands
        assumption
    case rest =>
      obtain ⟨rfl, hcb⟩ := hcut
      obtain ⟨w3, rfl⟩ : ∃ u : World, u = wc := ⟨_, rfl⟩
      have B3 := bel_tr B2 hcb
      have HR3 := Lib.hid (HR2.out.below hcb)
      have HT3 := Lib.hid (HT2.out.below hcb)
      have c3R := (hcb.cell (p := ⟨g, 0, none⟩) lR).trans cR
      have c3T := (hcb.cell (p := ⟨g2, 0, none⟩) lT).trans cT
      have b24W := HP.out.w2
      have b24n := HP.out.h2
      have RT := Lib.hid (fun X hX => (implRepeatTile_any (some ⟨g2, 0, none⟩) hv cap2 sT.size qx qy (tileF xs sT.size hv) X HPT.out hX px (by omega) py (by omega) (by rw [HDX.out.mul]; exact HP.out.w2) (by rw [HDY.out.mul]; exact HP.out.h2)).mono (fun e w' h => (show ∃ g4 cap4, e = .returned (.tuple #[.slice (some ⟨g4, 0, none⟩) n cap4, .int .i64 0]) ∧ RowsS w' (some ⟨g4, 0, none⟩) n xs ∧ Below X.heap.size X w' from by
        obtain ⟨g4, cap4, he, hc4, hR4, hb4⟩ := h
        rw [HDY.out.mul] at he hR4
        rw [HBACK.out] at hR4
        exact ⟨g4, cap4, he, hR4, hb4⟩)))
      have wx : IntKind.i64.wrap (qx : Int) = (qx : Int) := IntWalk.i64_in _ (by omega)
      have wy : IntKind.i64.wrap (qy : Int) = (qy : Int) := IntWalk.i64_in _ (by omega)
      clear hcb cR cT lR lT HR2 HT2 VP B2
      go_upto_region 7 with fail
      go_cut [8, 9] (fun v k wx => ∃ g4 cap4, v = .slice (some ⟨g4, 0, none⟩) n cap4 ∧ k = .int .i64 0 ∧ RowsS wx (some ⟨g4, 0, none⟩) n xs ∧ Below w3.heap.size w3 wx)
      case first =>
        go_region_with ((go_at_call 26; refine Calls.mono (RT.out _ (HT3.out.below (by first | exact Below.refl _ _ | exact bel_drew (Below.refl _ _)))) ?_; rintro e w4 ⟨g4, cap4, rfl, hR4, hb4⟩))
        all_goals
          go_wp2_with fail
          go_meet
          exact ⟨g4, cap4, rfl, rfl, (by first | exact hR4 | exact hR4.below (bel_drew (Below.refl _ _))), (by first | exact hb4 | exact Below.trans (bel_drew (Below.refl _ _)) hb4 | exact bel_drew hb4 | exact bel_drew (Below.trans (bel_drew (Below.refl _ _)) hb4))⟩
      case rest =>
        obtain ⟨g4, cap4, rfl, rfl, hR4, hcb⟩ := hcut
        obtain ⟨w4, rfl⟩ : ∃ u : World, u = wc := ⟨_, rfl⟩
        have B4 := bel_tr B3 hcb
        have HR4 := Lib.hid (HR3.out.below hcb)
        have HT4 := Lib.hid (HT3.out.below hcb)
        have HB4 := Lib.hid hR4
        clear hR4 hcb c3R c3T RT HR3 HT3 B3 x0 x1 x2 x3 x4 x5 x6 y0 y1 y2 y3 y4 y5 y6 wx wy
        go_wp2_with fail
        refine (a2Text_yes _ _ _ _ _ _ xs _ HB4.out HR4.out).mono ?_; rintro e w5 ⟨rfl, hb5⟩
        have B5 := bel_tr B4 hb5
        have HR5 := Lib.hid (HR4.out.below hb5)
        have HT5 := Lib.hid (HT4.out.below hb5)
        have HM5 := Lib.hid (HB1.out.below B5)
        clear hb5 HB4 HR4 HT4 B4
        go_wp2_with fail
        refine (a2At_any A1 n1 c1 0 2 _ HM5.out (by omega) (by omega) (by omega) (by omega)).mono ?_; rintro e w' ⟨x, rfl, hx0, hx1, rfl⟩
        obtain ⟨a, ha⟩ : ∃ a : Nat, 1 + x = (a : Int) := ⟨(1 + x).toNat, by omega⟩
        have ha1 : 1 ≤ a := by omega
        have ha2 : a ≤ 2 := by omega
        obtain rfl : x = (a : Int) - 1 := by omega
        have e1 : 1 + ((a : Int) - 1) = (a : Int) := by omega
        clear hx0 hx1 ha
        go_wp2_with fail
        refine (a2At_any A1 n1 c1 1 2 _ HM5.out (by omega) (by omega) (by omega) (by omega)).mono ?_; rintro e w' ⟨y, rfl, hy0, hy1, rfl⟩
        obtain ⟨b, hb⟩ : ∃ b : Nat, 1 + y = (b : Int) := ⟨(1 + y).toNat, by omega⟩
        have hb1 : 1 ≤ b := by omega
        have hb2 : b ≤ 2 := by omega
        obtain rfl : y = (b : Int) - 1 := by omega
        have e2 : 1 + ((b : Int) - 1) = (b : Int) := by omega
        clear hy0 hy1 hb
        have haW : a * sR.size ≤ 24 := by
          have := Nat.mul_le_mul ha2 hW12
          omega
        have hbn : b * n ≤ 24 := by
          have := Nat.mul_le_mul hb2 hn9
          omega
        have R6 := Lib.hid (implRepeatTile_any (some ⟨g, 0, none⟩) n cap sR.size a b xs _ HP.out HR5.out ha1 (by omega) hb1 (by omega) haW hbn)
        have HBIG := Lib.hid (rep_ok HP.out ha1 hb1 haW hbn)
        have HAW := Lib.hid haW; have HBN := Lib.hid hbn
        clear haW hbn
        go_wp2_with fail
        refine R6.out.mono ?_; rintro e w6 ⟨g6, cap6, rfl, hcap6, hR6, hb6⟩
        have B6 := bel_tr B5 hb6
        have HT6 := Lib.hid (HT5.out.below hb6)
        have LT := Lib.hid (implLeastTile_any (some ⟨g6, 0, none⟩) (b * n) cap6 (a * sR.size) (repF xs n a b) w6 HBIG.out hR6 hcap6)
        clear hR6 hb6 hcap6 HR5 HT5 R6 HM5
        obtain ⟨N2, hN2⟩ : ∃ N2, b * n = N2 := ⟨_, rfl⟩
        have HN2 := Lib.hid hN2
        rw [hN2] at LT
        rw [hN2]
        clear hN2
        go_wp2_with fail
        refine LT.out.mono ?_; rintro e w7 ⟨wv', hv', g7, cap7, rfl, hLX, hLY, hR7, hb7⟩
        have B7 := bel_tr B6 hb7
        have HT7 := Lib.hid (HT6.out.below hb7)
        rw [← HN2.out] at hLX hLY
        obtain ⟨r1, r2, r3⟩ := tile_same HP.out ha1 hb1 HAW.out HBN.out HLX.out HLY.out hLX hLY
        rw [r3] at hR7
        have HS7 := Lib.hid hR7
        clear hLX hLY hb7 r1 r2 r3 hR7 LT
        go_wp2_with fail
        refine (a2Text_yes _ _ _ _ _ _ (tileF xs sT.size hv) _ HS7.out HT7.out).mono ?_; rintro e w8 ⟨rfl, hb8⟩
        have B8 := bel_tr B7 hb8
        go_wp2_with fail
        go_ret
        exact ⟨rfl, B8⟩

set_option maxRecDepth 100000 in
theorem lifted (os : Os) (started : os.Started) (H : Type) (enc : TypeId × Value → H) :
    ReturnsInHanded {} Try.checked os 4 .any (Rows.fnTilesSpec.pre6 enc Try.prog Try.f4 Rows.fnTilesRow.domain false) (Rows.fnTilesSpec.post enc Try.prog Try.f4 false true false false) := by
  refine returnsInHanded_of_change (C := Try.checked) own started (by kernel_rfl) Try.func4
    (ChangeSpec.witness6 (enc := enc) (C := Try.checked) false ⟨#[], #[.slice none 0 0, .slice none 0 0], []⟩ 8 (by kernel_rfl) (by kernel_rfl) (by kernel_rfl) (by kernel_rfl)) ?_
  intro W base args ds gs before hval0 hW hcnd _
  have hval : ∀ (j : Nat) t v, Try.f4.params[j]? = some t → args[j]? = some v → Value.okWide Try.prog W .any base t v := hval0
  have hW' := hW
  obtain ⟨p, q, hA0, hV, rfl, hfz, hnd⟩ := hW
  have hA : DataW.TrodAll enc Try.prog W 0 (fun _ => true) true Try.f4.params.toList args.toList ds p := hA0
  rw [Try.params4] at hA hval
  obtain ⟨v0, vs0, d0, ds0, p0, q0, hargs, rfl, rfl, h0, r0⟩ := trodAll_cons hA
  obtain ⟨v1, vs1, d1, ds1, p1, q1, rfl, rfl, rfl, h1, r1⟩ := trodAll_cons r0
  obtain ⟨rfl, rfl, rfl⟩ := trodAll_nil r1
  obtain rfl : args = #[v0, v1] := by cases args; simp_all
  obtain ⟨rfl, rfl⟩ := trodVars_none hV
  have t0 := h0
  have lt0 : ∀ x ∈ p0, x.block < W.heap.size := by obtain ⟨m, hm⟩ := t0; exact DataW.trod_lt m _ _ _ hm
  obtain ⟨A0, n0, c0, rfl⟩ := okWide_slice Try.underlying22 (hval 0 22 v0 rfl rfl)
  have hR0 : BysRaw W A0 n0 := param_bys Try.underlying22 Try.underlying5 (by kernel_rfl) h0
  have t1 := h1
  have lt1 : ∀ x ∈ p1, x.block < W.heap.size := by obtain ⟨m, hm⟩ := t1; exact DataW.trod_lt m _ _ _ hm
  obtain ⟨A1, n1, c1, rfl⟩ := okWide_slice Try.underlying22 (hval 1 22 v1 rfl rfl)
  have hR1 : BysRaw W A1 n1 := param_bys Try.underlying22 Try.underlying5 (by kernel_rfl) h1
  clear hA0 hval0
  refine (walk A0 n0 c0 A1 n1 c1 W hR0 hR1).mono fun e W' ⟨he, bel⟩ => ?_
  subst he
  exact ⟨_, rfl, _, _, _, [], _, [], hW', trodAll_mk1 (shut_bool Try.underlying4 _), (trodAll_cons_mk (Below.trod laidOut (by kernel_rfl) (of_decide_eq_true (by kernel_rfl)) t0 bel lt0) (trodAll_cons_mk (Below.trod laidOut (by kernel_rfl) (of_decide_eq_true (by kernel_rfl)) t1 bel lt1) trodAll_mk0)), rfl, bel.frame _, fun h => by cases h⟩

theorem over : Rows.fnTilesRow.holds Try.pinned (OpenSpec.ofChange Rows.fnTilesSpec) :=
  OpenClaim.holds_of_wide 4 Try.f4 rfl rfl rfl rfl rfl rfl rfl ⟨rfl, rfl, rfl, rfl, rfl⟩ rfl rfl rfl rfl rfl (by kernel_rfl) Try.func4 (by kernel_rfl)
    (of_decide_eq_true (by kernel_rfl)) (by unfold Func.isWrapper; first | (rw [if_pos (by decide +kernel)]; kernel_rfl) | (rw [if_neg (by decide +kernel)]; exact ⟨rfl, rfl⟩))
    (fun os started H enc _ => lifted os started H enc)

theorem proved : Rows.FnTilesSaid := over
end Go.Proofs.Ytoghgbbepjpelaa.lawFnTiles
