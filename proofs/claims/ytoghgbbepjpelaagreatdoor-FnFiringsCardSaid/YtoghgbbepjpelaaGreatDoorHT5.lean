/- The contract of the program's ReadHeatRules. -/
import Derived.Test.YtoghgbbepjpelaaGreatDoorHT3
import Derived.Test.YtoghgbbepjpelaaGreatDoorHT4
import Derived.Test.YtoghgbbepjpelaaGreatDoorAHk
import Derived.Test.YtoghgbbepjpelaaGreatDoorN4
namespace Go.Proofs.YtoghgbbepjpelaaGreatDoor
open Go.RowKit
set_option linter.unusedVariables false

/-- A variable of the library's holds some number. -/
def MaxL (w : World) : Prop := ∃ m, w.cell? ⟨0, 0, none⟩ = some (.int .i64 m)
theorem MaxL.below {w w' : World} (h : MaxL w) (hb : Below w.heap.size w w') : MaxL w' := by
  obtain ⟨m, hm⟩ := h
  exact ⟨m, (hb.cell (p := ⟨0, 0, none⟩) (World.block_lt_of_cell? w _ hm)).trans hm⟩
theorem cut_any (s sep : ByteArray) (w : World) (hs : s.size ≤ 1048576) (hm : MaxL w) :
    Calls Tryz.prog 39 #[.string s, .string sep] w fun e w' => e = .returned (.tuple #[.string ⟨(Lib.cut s.data.toList sep.data.toList).1.toArray⟩, .string ⟨(Lib.cut s.data.toList sep.data.toList).2.1.toArray⟩, .bool (Lib.cut s.data.toList sep.data.toList).2.2]) ∧ Below w.heap.size w w' := by
  obtain ⟨m, hm⟩ := hm
  exact (Any.strings_Cut { Tryz.laysM145 with } s sep m w (by omega) hm).mono fun e w' ⟨he, n, hw⟩ => ⟨he, by subst hw; exact below_drewN (Below.refl _ _) n⟩
/-- What lies ahead of the call. -/
structure HEnv (w : World) : Prop where
  tab : Tab w
  errs : Errs w
  maxl : MaxL w
theorem HEnv.below {w w' : World} (h : HEnv w) (hb : Below w.heap.size w w') : HEnv w' := ⟨h.tab.below hb, h.errs.below hb, h.maxl.below hb⟩

theorem cut_len (l sep : List UInt8) : (Lib.cut l sep).1.length ≤ l.length ∧ (Lib.cut l sep).2.1.length ≤ l.length := by
  rw [Lib.cut]; split
  · refine ⟨?_, ?_⟩
    · simp; omega
    · simp
  · simp
theorem splitK_mem (b : UInt8) : ∀ (k : Nat) (l : List UInt8), ∀ p ∈ Lib.splitK [b] 0 k l, p.length ≤ l.length
  | 0, l, p, h => by
    have : p = l := by simpa [Lib.splitK] using h
    subst this; exact Nat.le_refl _
  | k + 1, l, p, h => by
    rw [Lib.splitK] at h
    split at h
    · have : p = l := by simpa using h
      subst this; exact Nat.le_refl _
    · rcases List.mem_cons.1 h with rfl | h1
      · simp; omega
      · have := splitK_mem b k _ p h1
        simp at this; omega
theorem splitK_few (b : UInt8) : ∀ (k : Nat) (l : List UInt8), 1 ≤ (Lib.splitK [b] 0 k l).length ∧ (Lib.splitK [b] 0 k l).length ≤ k + 1
  | 0, l => by simp [Lib.splitK]
  | k + 1, l => by
    rw [Lib.splitK]
    split
    · simp
    · have := splitK_few b k (l.drop ((Lib.index l [b]).toNat + [b].length))
      simp at this ⊢; omega
def SplN (l : List UInt8) (w : World) (e : Ending) (w' : World) : Prop :=
  ∃ g cap, e = .returned (.slice (some ⟨g, 0, none⟩) (wordsI l).length cap) ∧ StrsAt w' g (wordsI l) ∧ w.heap.size ≤ g ∧ g < w'.heap.size ∧ Below w.heap.size w w'
theorem splitN_any (s : ByteArray) (w : World) (hs : s.size ≤ 1048576) (hm : MaxL w) :
    Calls Tryz.prog 38 #[.string s, .string ⟨#[32]⟩, .int .i64 9] w (SplN s.data.toList w) := by
  obtain ⟨m, hm⟩ := hm
  refine (Any.strings_SplitN { Tryz.laysM147 with } Tryz.laysM147.i9 s ⟨#[32]⟩ 9 m w (by omega) hm (by decide) (by decide) (by decide)).mono ?_
  rintro e w' ⟨he, hw⟩
  have hd := Lib.splitB_data ⟨#[32]⟩ 0 (min 9 (s.size + 1) - 1) s
  have hwd : (Lib.splitB ⟨#[32]⟩ 0 (min 9 (s.size + 1) - 1) s).map (·.data.toList) = wordsI s.data.toList := by rw [hd, wordsI, Lib.size_eq]
  generalize Lib.splitB ⟨#[32]⟩ 0 (min 9 (s.size + 1) - 1) s = ps at he hw hwd
  have hlen : ps.length = (wordsI s.data.toList).length := by rw [← hwd, List.length_map]
  rw [hlen] at he
  subst hw
  refine ⟨_, _, he, fun j p hp => ?_, Nat.le_refl _, by simp, (Below.refl _ _).alloc (Nat.le_refl _) _⟩
  rw [← hwd, List.getElem?_map] at hp
  cases hx : ps[j]? with
  | none => rw [hx] at hp; cases hp
  | some x =>
    rw [hx] at hp
    simp only [Option.map_some, Option.some.injEq] at hp
    have hj := (List.getElem?_eq_some_iff.1 hx).1
    have e1 : x = ⟨p.toArray⟩ := Go.WideShapes.bytes_inj (by rw [hp])
    have hb := Go.Deep.blk_alloc_new w (.cells (Lib.cellsOf ps (min 9 (s.size + 1))) 9)
    show (w.alloc (.cells (Lib.cellsOf ps (min 9 (s.size + 1))) 9)).cell? _ = _
    rw [Go.cell_of_row _ _ _ _ _ _ hb, ← e1, Lib.cellsOf]
    have e2 : (ps.map Value.string ++ List.replicate (min 9 (s.size + 1) - ps.length) (Value.string ByteArray.empty))[j]? = some (.string x) := by
      rw [List.getElem?_append_left (by rw [List.length_map]; exact hj), List.getElem?_map, hx]; rfl
    simpa using e2
theorem wordI_nums (p : List UInt8) : wordI p = match numO (riseL p), numO (uptoL p), numO (holdL p) with | some a, some b, some c => some ⟨b, a, c⟩ | _, _, _ => none := rfl
theorem h_str_eq {a b : ByteArray} (h : a = b) : (a.toList == b.toList) = true := by rw [h]; simp
set_option maxRecDepth 20000 in
set_option maxHeartbeats 8000000 in
theorem implReadHeatRules_any (s : ByteArray) (w : World) (hs : s.size ≤ 1048576) (hE : HEnv w) :
    Calls Tryz.prog 15 #[.string s] w (RulesC (readL s.data.toList) (readB s.data.toList) w) := by
  have HE := Lib.hid hE; clear hE
  have hspl := fun W hW => splitN_any s W hs hW
  have hsl : s.data.toList.length ≤ 1048576 := by rw [← Lib.size_eq]; exact hs
  obtain ⟨l, hl⟩ : ∃ l, s.data.toList = l := ⟨_, rfl⟩
  rw [hl] at hsl hspl ⊢
  have HSL := Lib.hid (show s = ⟨l.toArray⟩ from Go.WideShapes.bytes_inj (by rw [hl]))
  obtain ⟨ws, hws⟩ : ∃ ws, wordsI l = ws := ⟨_, rfl⟩
  unfold SplN at hspl
  rw [hws] at hspl
  have HWS := Lib.hid hws
  have hfew : 1 ≤ ws.length ∧ ws.length ≤ 9 := by
    rw [← hws, wordsI]
    have := splitK_few 32 (min 9 (l.length + 1) - 1) l
    omega
  have HMEM := Lib.hid (fun p (hp : p ∈ ws) => (show p.length ≤ 1048576 from Nat.le_trans (splitK_mem 32 _ l p (by rw [← hws, wordsI] at hp; exact hp)) hsl))
  clear hl hws
  go_enter Tryz.func15, Tryz.ntmps15
  go_wp2_with fail
  have A0 : Below w.heap.size w (w.alloc (.cells #[] 48)) := (Below.refl _ _).alloc (Nat.le_refl _) _
  refine (hspl _ (HE.out.maxl.below A0)).mono ?_; rintro e w1 ⟨g, cap, rfl, hst, hgw, hgl, hb1⟩
  have HO1 := Lib.hid ((OwnHeatRule.made' (w := w) (base := w.heap.size) (Nat.le_refl _) rfl).below hb1)
  have HST := Lib.hid hst
  have HB1 := Lib.hid (bel_tr A0 hb1)
  have hne1 : w.heap.size ≠ g := by simp only [World.size_alloc] at hgw; omega
  clear hst hb1 hspl A0
  go_wp2_with fail
  go_loopw [4, 23] (fun v i wr => ∃ rs : List HeatRule, i = .int .i64 (rs.length : Int) ∧ OwnHeatRule wr w.heap.size v rs ∧ ReadW wordI ws rs ∧ StrsAt wr g ws ∧ g < wr.heap.size ∧ v.ownBlock ≠ some g ∧ Below w.heap.size w wr) (fun _ i _ => ws.length - (intOf i).toNat)
  case atStart => exact ⟨[], rfl, HO1.out, ReadW.zero _ _, HST.out, hgl, by simp [Value.ownBlock]; exact hne1, HB1.out⟩
  case round =>
    obtain ⟨rs, rfl, hO, hR, hst, hgl, hnb, hB⟩ := hrel
    have hrl := hR.1
    have HO := Lib.hid hO; have HR := Lib.hid hR; have HB := Lib.hid hB; have HST := Lib.hid hst; have HNB := Lib.hid hnb
    obtain ⟨go, co, hv, hgo, _, hRow⟩ := hO.row
    subst hv
    have hz := hB.size
    clear hO hR hB hst hnb HO1 hRow
    obtain ⟨wo, rfl⟩ : ∃ u : World, u = wr := ⟨_, rfl⟩
    by_cases hlt : rs.length < ws.length
    · have hpe : ws[rs.length]? = some (nt ws rs.length) := by rw [nt_lt hlt]; exact List.getElem?_eq_getElem hlt
      have hpm := HMEM.out _ (nt_mem hlt)
      have c0 := HST.out _ _ hpe
      obtain ⟨p, hp⟩ : ∃ p, nt ws rs.length = p := ⟨_, rfl⟩
      rw [hp] at c0 hpm
      obtain ⟨P, hP, hPd, hPs⟩ := mk_of p
      rw [hP] at c0
      have k1 := cut_len p [62]
      have k2 := cut_len (restL p) [42]
      have hrest : (restL p).length ≤ p.length := k1.2
      have hrise : (riseL p).length ≤ p.length := k1.1
      have hupto : (uptoL p).length ≤ p.length := Nat.le_trans k2.1 hrest
      have hhold : (holdL p).length ≤ p.length := Nat.le_trans k2.2 hrest
      obtain ⟨U, hU, hUd, hUs⟩ := mk_of (riseL p)
      obtain ⟨V, hV, hVd, hVs⟩ := mk_of (restL p)
      obtain ⟨X, hX, hXd, hXs⟩ := mk_of (uptoL p)
      obtain ⟨Y, hY, hYd, hYs⟩ := mk_of (holdL p)
      obtain ⟨fa, hfa⟩ : ∃ b, (Lib.cut p [62]).2.2 = b := ⟨_, rfl⟩
      obtain ⟨fb, hfb⟩ : ∃ b, (Lib.cut (restL p) [42]).2.2 = b := ⟨_, rfl⟩
      have hc1 : ∀ W, MaxL W → Calls Tryz.prog 39 #[.string P, .string ⟨#[62]⟩] W fun e w' => e = .returned (.tuple #[.string U, .string V, .bool fa]) ∧ Below W.heap.size W w' := fun W hW => by
        have h := cut_any P ⟨#[62]⟩ W (by omega) hW
        rw [hPd] at h
        rw [← hU, ← hV, ← hfa]
        exact h
      have hc2 : ∀ W, MaxL W → Calls Tryz.prog 39 #[.string V, .string ⟨#[42]⟩] W fun e w' => e = .returned (.tuple #[.string X, .string Y, .bool fb]) ∧ Below W.heap.size W w' := fun W hW => by
        have h := cut_any V ⟨#[42]⟩ W (by omega) hW
        rw [hVd] at h
        rw [← hX, ← hY, ← hfb]
        exact h
      have hwn := wordI_nums p
      obtain ⟨ou, hou⟩ : ∃ o, numO (riseL p) = o := ⟨_, rfl⟩
      obtain ⟨ox, hox⟩ : ∃ o, numO (uptoL p) = o := ⟨_, rfl⟩
      obtain ⟨oy, hoy⟩ : ∃ o, numO (holdL p) = o := ⟨_, rfl⟩
      have hnu := fun W hT hE => readDecimal_any U W (by omega) hT hE
      have hnx := fun W hT hE => readDecimal_any X W (by omega) hT hE
      have hny := fun W hT hE => readDecimal_any Y W (by omega) hT hE
      unfold NumC at hnu hnx hny
      rw [hUd, hou] at hnu
      rw [hXd, hox] at hnx
      rw [hYd, hoy] at hny
      rw [hou, hox, hoy] at hwn
      have HP := Lib.hid hp
      have HC1 := Lib.hid hc1; have HC2 := Lib.hid hc2; have HNU := Lib.hid hnu; have HNX := Lib.hid hnx; have HNY := Lib.hid hny; have HWN := Lib.hid hwn
      have hltz : (rs.length : Int) < (ws.length : Int) := by omega
      clear hpe hP hp hPd hPs hU hV hX hY hUd hVd hXd hYd hUs hVs hXs hYs hfa hfb hc1 hc2 hwn hou hox hoy hnu hnx hny k1 k2 hrest hrise hupto hhold
      go_wp2_with fail
      refine (HC1.out _ (HE.out.maxl.below HB.out)).mono ?_; rintro e w2 ⟨rfl, hb2⟩
      have HB2 := Lib.hid hb2
      clear hb2 c0
      go_wp2_with fail
      refine (HC2.out _ (HE.out.maxl.below (HB.out.trans (HB2.out.mono hz)))).mono ?_; rintro e w3 ⟨rfl, hb3⟩
      have HB3 := Lib.hid (bel_tr HB2.out hb3)
      clear hb3 HB2
      go_wp2_with fail
      have E3 := HE.out.below (HB.out.trans (HB3.out.mono hz))
      refine (HNU.out _ E3.tab E3.errs).mono ?_; rintro e w4 ⟨rfl, hb4⟩
      have HB4 := Lib.hid (bel_tr HB3.out hb4)
      clear hb4 HB3 E3
      go_wp2_with fail
      have E4 := HE.out.below (HB.out.trans (HB4.out.mono hz))
      refine (HNX.out _ E4.tab E4.errs).mono ?_; rintro e w5 ⟨rfl, hb5⟩
      have HB5 := Lib.hid (bel_tr HB4.out hb5)
      clear hb5 HB4 E4
      go_wp2_with fail
      have E5 := HE.out.below (HB.out.trans (HB5.out.mono hz))
      refine (HNY.out _ E5.tab E5.errs).mono ?_; rintro e w6 ⟨rfl, hb6⟩
      have HB6 := Lib.hid (bel_tr HB5.out hb6)
      clear hb6 HB5 E5
      have HBW := Lib.hid (HB.out.trans (HB6.out.mono hz))
      cases ou with
      | none =>
        have R := Lib.hid (impl_bad (l := l) (k := rs.length) (by rw [HWS.out]; exact hlt) (by rw [HWS.out, HP.out, HWN.out]))
        go_wp2_with fail
        go_ret2
        exact RulesC.none_ R.out HBW.out
      | some a =>
        cases ox with
        | none =>
          have R := Lib.hid (impl_bad (l := l) (k := rs.length) (by rw [HWS.out]; exact hlt) (by rw [HWS.out, HP.out, HWN.out]))
          go_wp2_with fail
          go_ret2
          exact RulesC.none_ R.out HBW.out
        | some b =>
          cases oy with
          | none =>
            have R := Lib.hid (impl_bad (l := l) (k := rs.length) (by rw [HWS.out]; exact hlt) (by rw [HWS.out, HP.out, HWN.out]))
            go_wp2_with fail
            go_ret2
            exact RulesC.none_ R.out HBW.out
          | some c =>
            have HO6 := Lib.hid (HO.out.below HB6.out)
            have HST6 := Lib.hid (HST.out.below hgl HB6.out)
            have hgl6 := Nat.lt_of_lt_of_le hgl HB6.out.size
            have HRN := Lib.hid (HR.out.snoc (r := ⟨b, a, c⟩) hlt (by rw [HP.out, HWN.out]))
            have hz7 : w.heap.size ≤ w6.heap.size := HBW.out.size
            go_wp2_with (at_builtin; refine wpList_appHeatRule1k _ rfl (.tmp 64) (.tmp 69) rfl w.heap.size _ _ HO6.out rfl ⟨b, a, c⟩ _ rfl rfl (by omega) hz7 ?_; intro v8 w8 hO8 hk8 hs8 hkp8)
            have hB8 := hk8 (Nat.le_refl _) HBW.out
            obtain ⟨hkc, hkn⟩ := hkp8 g hgl6 HNB.out
            have hst8 : StrsAt w8 g ws := fun j q hq => (hkc j).trans (HST6.out j q hq)
            clear hkc hkp8
            go_roundw
            case rel => exact ⟨rs ++ [⟨b, a, c⟩], by simp, hO8, HRN.out, hst8, Nat.lt_of_lt_of_le hgl6 hs8, hkn, hB8⟩
            case measure => simp [intOf]; omega
    · have hle : rs.length = ws.length := by omega
      have hltz : ¬ (rs.length : Int) < (ws.length : Int) := by omega
      obtain ⟨gq, cq, eq, _, hX⟩ : ∃ g cap, Value.slice (some ⟨go, 0, none⟩) rs.length co = .slice (some ⟨g, 0, none⟩) rs.length cap ∧ w.heap.size ≤ g ∧ HeatRuleS wo (some ⟨g, 0, none⟩) rs.length rs := by
        obtain ⟨g, cap, e, hg, _, hR⟩ := HO.out.row
        exact ⟨g, cap, e, hg, hR.S rfl (by omega)⟩
      simp only [Value.slice.injEq, Option.some.injEq, Addr.mk.injEq, and_true, true_and] at eq
      obtain ⟨rfl, rfl⟩ := eq
      have hne : rs ≠ [] := fun e => by rw [e] at hle; simp at hle; omega
      have hl0 : l ≠ [] := fun e => by
        have h1 := HR.out.2 0 (by omega)
        rw [← HWS.out, e, wordsI_nil] at h1
        have h2 : nt [([] : List UInt8)] 0 = [] := rfl
        rw [h2, wordI_nil] at h1; cases h1
      have HX := Lib.hid hX
      obtain ⟨T, hT⟩ : ∃ T, rulesS rs = T := ⟨_, rfl⟩
      have hcon := fun W hW hB => implHeatRulesText_any (some ⟨go, 0, none⟩) rs.length co rs W hW hB
      rw [hT] at hcon
      have HCON := Lib.hid hcon
      by_cases hTs : T = s
      · have R := Lib.hid (impl_done (l := l) (rs := rs) (by rw [HWS.out]; exact HR.out) (by rw [HWS.out]; exact hle) (by rw [hT, hTs]; exact HSL.out) hne hl0)
        subst hTs
        clear hX hle hne hl0 hT hcon
        go_wp2_with fail
        refine (HCON.out _ HX.out (HE.out.tab.below HB.out)).mono ?_; rintro e w2 ⟨rfl, hb2⟩
        have HB2 := Lib.hid hb2
        clear hb2
        go_wp2_with fail
        go_ret2
        exact RulesC.own R.out (HO.out.below HB2.out) (by omega) (Nat.le_refl _) (HB.out.trans (HB2.out.mono hz))
      · have R := Lib.hid (impl_not (l := l) (rs := rs) (by rw [HWS.out]; exact HR.out) (by rw [HWS.out]; exact hle) (by rw [hT, ← HSL.out]; exact hTs))
        have hq : (T.toList == s.toList) = false := str_ne hTs
        clear hX hle hne hl0 hT hcon hTs
        go_wp2_with fail
        refine (HCON.out _ HX.out (HE.out.tab.below HB.out)).mono ?_; rintro e w2 ⟨rfl, hb2⟩
        have HB2 := Lib.hid hb2
        clear hb2
        go_wp2_with fail
        go_ret2
        exact RulesC.none_ R.out (HB.out.trans (HB2.out.mono hz))
end Go.Proofs.YtoghgbbepjpelaaGreatDoor
