/- The contract of the reference's ReadHeatRules. -/
import Derived.Test.YtoghgbbepjpelaaGreatDoorHT1
import Derived.Test.YtoghgbbepjpelaaGreatDoorSP
import Derived.Test.YtoghgbbepjpelaaGreatDoorAHeatRule
import Derived.Test.YtoghgbbepjpelaaGreatDoorLs
namespace Go.Proofs.YtoghgbbepjpelaaGreatDoor
open Go.RowKit
set_option linter.unusedVariables false

/-- Rules that a call has made, and a yes or no. -/
def RulesC (l : List HeatRule) (b : Bool) (w : World) (e : Ending) (w' : World) : Prop :=
  ∃ A n c, e = .returned (.tuple #[.slice A n c, .bool b]) ∧ HeatRuleS w' A n l ∧ Fz w' A ∧ Fresh w w' A ∧ Below w.heap.size w w'
theorem RulesC.none_ {l : List UInt8} {w w' : World} (h : readRs l = none) (hb : Below w.heap.size w w') : RulesC (readL l) (readB l) w (.returned (.tuple #[.slice none 0 0, .bool false])) w' := by
  rw [readL, readB, h]
  exact ⟨none, 0, 0, rfl, HeatRuleS.nil _, Fz.none_ _, Fresh.none_ _ _, hb⟩
theorem RulesC.own {l : List UInt8} {rs : List HeatRule} {w w' : World} {base : Nat} {v : Value} (h : readRs l = some rs) (hO : OwnHeatRule w' base v rs) (hl : rs.length ≤ 1000000) (hbase : w.heap.size ≤ base) (hb : Below w.heap.size w w') :
    RulesC (readL l) (readB l) w (.returned (.tuple #[v, .bool true])) w' := by
  rw [readL, readB, h]
  obtain ⟨g, cap, rfl, hg, _, hR⟩ := hO.row
  refine ⟨_, _, _, rfl, hR.S rfl (by omega), Fz.mk_ hR.frozen, fun a e => ?_, hb⟩
  simp only [Option.some.injEq] at e
  subst e
  exact ⟨by show _ ≤ g; omega, hR.lt⟩

theorem splA_mem (b : UInt8) : ∀ (l cur : List UInt8), ∀ p ∈ splA b cur l, p.length ≤ cur.length + l.length
  | [], cur, p, h => by
    have : p = cur := by simpa [splA] using h
    subst this; simp
  | c :: l, cur, p, h => by
    rw [splA] at h
    split at h
    · rcases List.mem_cons.1 h with rfl | h1
      · simp
      · have := splA_mem b l [] p h1
        simp at this ⊢; omega
    · have := splA_mem b l (cur ++ [c]) p h
      simp at this ⊢; omega
theorem split_mem {b : UInt8} {l p : List UInt8} (h : p ∈ splitL b l) : p.length ≤ l.length := by
  have := splA_mem b l [] p h
  simpa using this
theorem splA_lens (b : UInt8) : ∀ (l cur : List UInt8), ((splA b cur l).map List.length).sum + (splA b cur l).length = cur.length + l.length + 1
  | [], cur => by simp [splA]
  | c :: l, cur => by
    rw [splA]
    split
    · have := splA_lens b l []
      simp at this ⊢; omega
    · have := splA_lens b l (cur ++ [c])
      simp at this ⊢; omega
theorem lens_ge : ∀ (ws : List (List UInt8)) (k : Nat), k ≤ ws.length → (∀ j, j < k → nt ws j ≠ []) → k ≤ (ws.map List.length).sum
  | [], k, h, _ => by simp at h; omega
  | a :: t, 0, _, _ => Nat.zero_le _
  | a :: t, k + 1, h, hn => by
    have h0 := hn 0 (by omega)
    have h1 : nt (a :: t) 0 = a := by simp [nt]
    rw [h1] at h0
    have h2 : 1 ≤ a.length := by
      cases a with
      | nil => exact absurd rfl h0
      | cons c r => simp
    have h3 := lens_ge t k (by simp at h; omega) (fun j hj => by
      have := hn (j + 1) (by omega)
      have e : nt (a :: t) (j + 1) = nt t j := by simp [nt]
      rwa [e] at this)
    simp; omega
theorem wordR_nil : wordR [] = none := by decide
theorem readW_few {l : List UInt8} {rs : List HeatRule} (h : ReadW wordR (splitL 32 l) rs) : 2 * rs.length ≤ l.length + 1 := by
  have h1 := lens_ge (splitL 32 l) rs.length h.1 (fun j hj e => by
    have := h.2 j hj
    rw [e, wordR_nil] at this; cases this)
  have h2 := splA_lens 32 l []
  have h3 : ((splitL 32 l).map List.length).sum + (splitL 32 l).length = 0 + l.length + 1 := h2
  have h4 := h.1
  omega
theorem wordR_not2 {p : List UInt8} (h : (splitL 62 p).length ≠ 2) : wordR p = none := by
  unfold wordR
  split
  · rename_i a b e; rw [e] at h; exact absurd rfl h
  · rfl
theorem wordR_not3 {p u v : List UInt8} (h1 : splitL 62 p = [u, v]) (h : (splitL 42 v).length ≠ 2) : wordR p = none := by
  unfold wordR
  rw [h1]
  simp only
  split
  · rename_i a b e; rw [e] at h; exact absurd rfl h
  · rfl
theorem wordR_nums {p u v x y : List UInt8} (h1 : splitL 62 p = [u, v]) (h2 : splitL 42 v = [x, y]) : wordR p = match numO u, numO x, numO y with | some a, some b, some c => some ⟨b, a, c⟩ | _, _, _ => none := by
  unfold wordR
  rw [h1]
  simp only
  rw [h2]
  rfl
theorem two_of {l : List (List UInt8)} (h : l.length = 2) : ∃ p q, l = [p, q] := by
  match l, h with
  | [p, q], _ => exact ⟨p, q, rfl⟩
theorem mk_of (p : List UInt8) : ∃ P : ByteArray, (⟨p.toArray⟩ : ByteArray) = P ∧ P.data.toList = p ∧ P.size = p.length := ⟨_, rfl, by simp, by rw [Lib.size_eq]⟩
set_option maxRecDepth 20000 in
set_option maxHeartbeats 8000000 in
theorem specReadHeatRules_any (s : ByteArray) (w : World) (hs : s.size ≤ 1048576) :
    Calls Tryz.prog 17 #[.string s] w (RulesC (readL s.data.toList) (readB s.data.toList) w) := by
  have hsplit : ∀ W, Calls Tryz.prog 45 #[.string s, .int .u8 32] W (Split s.data.toList 32 W) := fun W => l01Split_any s 32 W hs
  have hsl : s.data.toList.length ≤ 1048576 := by rw [← Lib.size_eq]; exact hs
  obtain ⟨l, hl⟩ : ∃ l, s.data.toList = l := ⟨_, rfl⟩
  rw [hl] at hsplit hsl ⊢
  obtain ⟨ws, hws⟩ : ∃ ws, splitL 32 l = ws := ⟨_, rfl⟩
  unfold Split at hsplit
  rw [hws] at hsplit
  have HWS := Lib.hid hws
  have hwl : ws.length ≤ 1048577 := by
    have := split_len 32 l []
    rw [← hws]
    have h2 : (splitL 32 l).length ≤ l.length + 1 := this
    omega
  have HMEM := Lib.hid (fun p (hp : p ∈ ws) => (show p.length ≤ 1048576 from Nat.le_trans (split_mem (b := 32) (l := l) (by rw [hws]; exact hp)) hsl))
  clear hl hws
  go_enter Tryz.func17, Tryz.ntmps17
  go_wp2_with fail
  refine (hsplit _).mono ?_; rintro e w1 ⟨g, cap, rfl, hst, hgl, hb1⟩
  have HST := Lib.hid hst
  have HB1 := Lib.hid hb1
  have hz1 := hb1.size
  have HO1 := Lib.hid (OwnHeatRule.made' (w := w1) (base := w1.heap.size) (Nat.le_refl _) rfl)
  clear hst hb1 hsplit
  go_wp2_with fail
  go_loopw [5, 6] (fun v i wr => ∃ rs : List HeatRule, i = .int .i64 (rs.length : Int) ∧ OwnHeatRule wr w1.heap.size v rs ∧ ReadW wordR ws rs ∧ Below w1.heap.size w1 wr) (fun _ i _ => ws.length - (intOf i).toNat)
  case atStart => exact ⟨[], rfl, HO1.out, ReadW.zero _ _, (Below.refl _ _).alloc (Nat.le_refl _) _⟩
  case round =>
    obtain ⟨rs, rfl, hO, hR, hB1⟩ := hrel
    have hB : Below w.heap.size w wr := HB1.out.trans (hB1.mono hz1)
    have hfew := readW_few (by rw [HWS.out]; exact hR)
    have hrl := hR.1
    have HO := Lib.hid hO; have HR := Lib.hid hR; have HB := Lib.hid hB; have HC := Lib.hid hB1
    obtain ⟨go, co, hv, hgo, _, hRow⟩ := hO.row
    subst hv
    have hz := hB1.size
    clear hO hR hB hB1 HO1 hRow
    obtain ⟨wo, rfl⟩ : ∃ u : World, u = wr := ⟨_, rfl⟩
    by_cases hlt : rs.length < ws.length
    · have hpe : ws[rs.length]? = some (nt ws rs.length) := by rw [nt_lt hlt]; exact List.getElem?_eq_getElem hlt
      have hpm := HMEM.out _ (nt_mem hlt)
      have c0 := (HST.out.below hgl HC.out) _ _ hpe
      obtain ⟨p, hp⟩ : ∃ p, nt ws rs.length = p := ⟨_, rfl⟩
      rw [hp] at c0 hpm
      obtain ⟨P, hP, hPd, hPs⟩ := mk_of p
      rw [hP] at c0
      have hs1 : ∀ W, Calls Tryz.prog 45 #[.string P, .int .u8 62] W (Split P.data.toList 62 W) := fun W => l01Split_any P 62 W (by omega)
      rw [hPd] at hs1
      have HP := Lib.hid hp
      have hltz : (rs.length : Int) < (ws.length : Int) := by omega
      clear hpe hP hp hPd hPs
      by_cases h2 : (splitL 62 p).length = 2
      · obtain ⟨u, v, huv⟩ := two_of h2
        have hvl := split_mem (b := 62) (l := p) (p := v) (by rw [huv]; simp)
        have hul := split_mem (b := 62) (l := p) (p := u) (by rw [huv]; simp)
        unfold Split at hs1
        rw [huv] at hs1
        have HUV := Lib.hid huv
        obtain ⟨U, hU, hUd, hUs⟩ := mk_of u
        obtain ⟨V, hV, hVd, hVs⟩ := mk_of v
        have hs2 : ∀ W, Calls Tryz.prog 45 #[.string V, .int .u8 42] W (Split V.data.toList 42 W) := fun W => l01Split_any V 42 W (by omega)
        rw [hVd] at hs2
        have HU := Lib.hid hU; have HV := Lib.hid hV
        have hnu := fun W => l01Number_any U W (by omega)
        unfold NumC at hnu
        rw [hUd] at hnu
        obtain ⟨ou, hou⟩ : ∃ o, numO u = o := ⟨_, rfl⟩
        rw [hou] at hnu
        have HOU := Lib.hid hou; have HNU := Lib.hid hnu
        clear h2 huv hU hV hUd hVd hUs hVs hou hnu
        by_cases h3 : (splitL 42 v).length = 2
        · obtain ⟨x, y, hxy⟩ := two_of h3
          have hxl := split_mem (b := 42) (l := v) (p := x) (by rw [hxy]; simp)
          have hyl := split_mem (b := 42) (l := v) (p := y) (by rw [hxy]; simp)
          unfold Split at hs2
          rw [hxy] at hs2
          have hwn := wordR_nums HUV.out hxy
          obtain ⟨X, hX, hXd, hXs⟩ := mk_of x
          obtain ⟨Y, hY, hYd, hYs⟩ := mk_of y
          have HX := Lib.hid hX; have HY := Lib.hid hY
          have hnx := fun W => l01Number_any X W (by omega)
          have hny := fun W => l01Number_any Y W (by omega)
          unfold NumC at hnx hny
          rw [hXd] at hnx
          rw [hYd] at hny
          obtain ⟨ox, hox⟩ : ∃ o, numO x = o := ⟨_, rfl⟩
          obtain ⟨oy, hoy⟩ : ∃ o, numO y = o := ⟨_, rfl⟩
          rw [hox] at hnx
          rw [hoy] at hny
          rw [HOU.out, hox, hoy] at hwn
          have HNX := Lib.hid hnx; have HNY := Lib.hid hny; have HWN := Lib.hid hwn
          clear h3 hxy hX hY hXd hYd hXs hYs hox hoy hnx hny hwn
          go_wp2_with fail
          refine (hs1 _).mono ?_; rintro e w2 ⟨g2, cap2, rfl, hst2, hg2, hb2⟩
          have c20 := hst2 0 u rfl
          have c21 := hst2 1 v rfl
          rw [HU.out] at c20; rw [HV.out] at c21
          have HB2 := Lib.hid hb2
          have hz2 := hb2.size
          clear hst2 hb2 c0
          go_wp2_with fail
          refine (hs2 _).mono ?_; rintro e w3 ⟨g3, cap3, rfl, hst3, hg3, hb3⟩
          have c30 := hst3 0 x rfl
          have c31 := hst3 1 y rfl
          rw [HX.out] at c30; rw [HY.out] at c31
          have d20 := (hb3.cell (p := ⟨g2, 0, none⟩) hg2).trans c20
          have HB3 := Lib.hid (bel_tr HB2.out hb3)
          have hz3 := hb3.size
          clear hst3 hb3 c20 c21 hs1 hs2
          go_wp2_with fail
          refine (HNU.out _).mono ?_; rintro e w4 ⟨rfl, hb4⟩
          have d30 := (hb4.cell (p := ⟨g3, 0, none⟩) hg3).trans c30
          have d31 := (hb4.cell (p := ⟨g3, 1, none⟩) hg3).trans c31
          have HB4 := Lib.hid (bel_tr HB3.out hb4)
          have hz4 := hb4.size
          clear hb4 c30 c31 d20
          go_wp2_with fail
          refine (HNX.out _).mono ?_; rintro e w5 ⟨rfl, hb5⟩
          have e31 := (hb5.cell (p := ⟨g3, 1, none⟩) (show g3 < w4.heap.size by omega)).trans d31
          have HB5 := Lib.hid (bel_tr HB4.out hb5)
          have hz5 := hb5.size
          clear hb5 d30 d31
          go_wp2_with fail
          refine (HNY.out _).mono ?_; rintro e w6 ⟨rfl, hb6⟩
          have HB6 := Lib.hid (bel_tr HB5.out hb6)
          have hz6 := hb6.size
          clear hb6 e31 HB2 HB3 HB4 HB5
          have HBW := Lib.hid (HB.out.trans (HB6.out.mono HB.out.size))
          cases ou with
          | none =>
            have R := Lib.hid (spec_bad (l := l) (k := rs.length) (by rw [HWS.out]; exact hlt) (by rw [HWS.out, HP.out, HWN.out]))
            go_wp2_with fail
            go_ret2
            exact RulesC.none_ R.out HBW.out
          | some a =>
            cases ox with
            | none =>
              have R := Lib.hid (spec_bad (l := l) (k := rs.length) (by rw [HWS.out]; exact hlt) (by rw [HWS.out, HP.out, HWN.out]))
              go_wp2_with fail
              go_ret2
              exact RulesC.none_ R.out HBW.out
            | some b =>
              cases oy with
              | none =>
                have R := Lib.hid (spec_bad (l := l) (k := rs.length) (by rw [HWS.out]; exact hlt) (by rw [HWS.out, HP.out, HWN.out]))
                go_wp2_with fail
                go_ret2
                exact RulesC.none_ R.out HBW.out
              | some c =>
                have HO6 := Lib.hid (HO.out.below HB6.out)
                have HRN := Lib.hid (HR.out.snoc (r := ⟨b, a, c⟩) hlt (by rw [HP.out, HWN.out]))
                have HC6 := Lib.hid (HC.out.trans (HB6.out.mono HC.out.size))
                have hz7 : w1.heap.size ≤ w6.heap.size := HC6.out.size
                go_wp2_with (at_builtin; refine wpList_appHeatRule1 _ rfl (.tmp 70) (.tmp 75) rfl w1.heap.size _ _ HO6.out rfl ⟨b, a, c⟩ _ rfl rfl (by omega) hz7 ?_; intro v8 w8 hO8 hk8 hs8)
                have hB8 := hk8 (Nat.le_refl _) HC6.out
                go_roundw
                case rel => exact ⟨rs ++ [⟨b, a, c⟩], by simp, hO8, HRN.out, hB8⟩
                case measure => simp [intOf]; omega
        · have R := Lib.hid (spec_bad (l := l) (k := rs.length) (by rw [HWS.out]; exact hlt) (by rw [HWS.out, HP.out]; exact wordR_not3 HUV.out h3))
          have h3' : (((splitL 42 v).length : Int) != 2) = true := by rw [bne_iff_ne]; omega
          unfold Split at hs2
          clear h3
          go_wp2_with fail
          refine (hs1 _).mono ?_; rintro e w2 ⟨g2, cap2, rfl, hst2, hg2, hb2⟩
          have c21 := hst2 1 v rfl
          rw [HV.out] at c21
          have HB2 := Lib.hid hb2
          clear hst2 hb2 c0
          go_wp2_with fail
          refine (hs2 _).mono ?_; rintro e w3 ⟨g3, cap3, rfl, hst3, hg3, hb3⟩
          have HBW := Lib.hid (HB.out.trans ((bel_tr HB2.out hb3).mono HB.out.size))
          clear hst3 hb3
          go_wp2_with fail
          go_ret2
          exact RulesC.none_ R.out HBW.out
      · have R := Lib.hid (spec_bad (l := l) (k := rs.length) (by rw [HWS.out]; exact hlt) (by rw [HWS.out, HP.out]; exact wordR_not2 h2))
        have h2' : (((splitL 62 p).length : Int) != 2) = true := by rw [bne_iff_ne]; omega
        unfold Split at hs1
        clear h2
        go_wp2_with fail
        refine (hs1 _).mono ?_; rintro e w2 ⟨g2, cap2, rfl, hst2, hg2, hb2⟩
        have HBW := Lib.hid (HB.out.trans (hb2.mono HB.out.size))
        clear hst2 hb2
        go_wp2_with fail
        go_ret2
        exact RulesC.none_ R.out HBW.out
    · have hle : rs.length = ws.length := by omega
      have D := Lib.hid (spec_done (l := l) (rs := rs) (by rw [HWS.out]; exact HR.out) (by rw [HWS.out]; exact hle))
      have hltz : ¬ (rs.length : Int) < (ws.length : Int) := by omega
      obtain ⟨gq, cq, eq, _, hX⟩ : ∃ g cap, Value.slice (some ⟨go, 0, none⟩) rs.length co = .slice (some ⟨g, 0, none⟩) rs.length cap ∧ w1.heap.size ≤ g ∧ HeatRuleS wo (some ⟨g, 0, none⟩) rs.length rs := by
        obtain ⟨g, cap, e, hg, _, hR⟩ := HO.out.row
        exact ⟨g, cap, e, hg, hR.S rfl (by omega)⟩
      simp only [Value.slice.injEq, Option.some.injEq, Addr.mk.injEq, and_true, true_and] at eq
      obtain ⟨rfl, rfl⟩ := eq
      have HX := Lib.hid hX
      clear hX hle
      rcases Bool.eq_false_or_eq_true (rulesOk rs) with g | g
      · have R := Lib.hid (D.out.trans (if_pos g))
        have G := Lib.hid g; clear g
        go_wp2_with fail
        refine (asB (l16Ok_any _ _ _ rs _ HX.out) G.out).mono ?_; rintro e w2 ⟨rfl, hb2⟩
        have HB2 := Lib.hid hb2
        clear hb2
        go_wp2_with fail
        go_ret2
        exact RulesC.own R.out (HO.out.below HB2.out) (by omega) hz1 (HB.out.trans (HB2.out.mono HB.out.size))
      · have R := Lib.hid (D.out.trans (if_neg (by rw [g]; simp)))
        have G := Lib.hid g; clear g
        go_wp2_with fail
        refine (asB (l16Ok_any _ _ _ rs _ HX.out) G.out).mono ?_; rintro e w2 ⟨rfl, hb2⟩
        have HB2 := Lib.hid hb2
        clear hb2
        go_wp2_with fail
        go_ret2
        exact RulesC.none_ R.out (HB.out.trans (HB2.out.mono HB.out.size))
end Go.Proofs.YtoghgbbepjpelaaGreatDoor
