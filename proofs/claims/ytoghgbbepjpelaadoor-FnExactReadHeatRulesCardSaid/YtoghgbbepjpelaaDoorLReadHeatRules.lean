/- FnExactReadHeatRules returns true for every input, and the argument reads afterwards as it read before; the listed tables hold what the program's text lays (tied). No condition. -/
import Derived.Test.YtoghgbbepjpelaaDoorHT5
import Derived.Test.YtoghgbbepjpelaaDoorMHeatRule
import Derived.Test.YtoghgbbepjpelaaDoorHsH
import Derived.Test.YtoghgbbepjpelaaDoorFr
import Derived.Test.YtoghgbbepjpelaaDoorTie
import Derived.Test.YtoghgbbepjpelaaDoorCards
import Derived.Stop.Joined
import Derived.SevenTiedAt
import Derived.Lay
namespace Go.Proofs.YtoghgbbepjpelaaDoor.lawReadHeatRules
open Go.ChangeShapes Go.WideShapes Go.ChangeAt Go.WideMaps Go.WideElems Go.RowKit Go.Joins
open Go.ChangeMaps (open_string shut_string)
set_option linter.unusedVariables false

theorem own : ownKnob Tryd.prog.godebug = none := by kernel_rfl
theorem laidOut : laidOutB Tryd.prog = true := by kernel_rfl

set_option maxHeartbeats 4000000 in
theorem walk (s : ByteArray) (w : World) (hs : s.size ≤ 9223372036854775807) (hE : HEnv w) :
    Calls Tryd.prog 5 #[.string s] w fun e w' => e = .returned (.bool true) ∧ Below w.heap.size w w' := by
  have HE := Lib.hid hE
  clear hE
  by_cases hbig : (1048576 : Int) < s.size
  · go_enter Tryd.func5, Tryd.ntmps5
    go_wp2_with fail
    go_ret
    exact ⟨rfl, Below.refl _ _⟩
  · have hs1 : s.size ≤ 1048576 := by omega
    have h1 := fun W => specReadHeatRules_any s W hs1
    have h2 := fun W hW => implReadHeatRules_any s W hs1 hW
    obtain ⟨rl, hrl⟩ : ∃ l, readL s.data.toList = l := ⟨_, rfl⟩
    obtain ⟨rb, hrb⟩ : ∃ l, readB s.data.toList = l := ⟨_, rfl⟩
    rw [hrl, hrb] at h1 h2
    have hbb : (rb != rb) = false := by simp
    clear hrl hrb
    go_enter Tryd.func5, Tryd.ntmps5
    go_wp2_with fail
    refine (h1 _).mono ?_; rintro e w1 ⟨Q1, q1, d1, rfl, hI1, hF1, hN1, hb1⟩
    have HN1 := Lib.hid hN1
    have hz1 := hb1.size
    clear hN1 hF1
    go_wp2_with fail
    refine (h2 _ (HE.out.below hb1)).mono ?_; rintro e w2 ⟨Q2, q2, d2, rfl, hI2, hF2, hN2, hb2⟩
    have HN2 := Lib.hid hN2
    have B2 := bel_tr hb1 hb2
    have hz2 := hb2.size
    have HF2 := Lib.hid hF2
    clear hN2 hF2
    go_wp2_with fail
    refine (eqHeatRuleS_any _ _ _ _ _ _ rl _ hI2 (hI1.below hb2)).mono ?_; rintro e w3 ⟨rfl, hb3⟩
    have B3 := bel_tr B2 hb3
    have hz3 := hb3.size
    go_wp2_with fail
    refine (markHeatRule_any _ _ _ rl _ _ (hI2.below hb3) (HF2.out.of_below HN2.out.lt hb3) (by omega) (by omega)).mono ?_; rintro e w4 ⟨rfl, hR4, hMF4, hg4⟩
    have hz4 := hg4.size
    have B4 : Below w.heap.size w w4 := below_grown B3 hg4 (by omega) (HN2.out.row (by omega))
    have hK4 := ((hI1.below hb2).below hb3).grown hg4 (HN1.out.ne_row HN2.out (by omega))
    have HR4 := Lib.hid hR4
    have hqb : q2 ≤ 1048576 := hI2.bound
    clear hg4 hMF4 hR4
    go_wp2_with fail
    refine (heldHeatRule_any _ _ _ _ _ hqb HR4.out (by omega) (by omega)).mono ?_; rintro e w' ⟨rfl, rfl⟩
    go_wp2_with fail
    refine (h2 _ (HE.out.below B4)).mono ?_; rintro e w5 ⟨Q5, q5, d5, rfl, hI5, hF5, hN5, hb5⟩
    have B5 := bel_tr B4 hb5
    clear hF5 hN5
    go_wp2_with fail
    refine (eqHeatRuleS_any _ _ _ _ _ _ rl _ hI5 (hK4.below hb5)).mono ?_; rintro e w6 ⟨rfl, hb6⟩
    have B6 := bel_tr B5 hb6
    go_wp2_with fail
    refine (heldHeatRule_any _ _ _ _ _ hqb (HR4.out.below (bel_tr hb5 hb6)) (by omega) (by omega)).mono ?_; rintro e w' ⟨rfl, rfl⟩
    go_wp2_with fail
    go_ret
    exact ⟨rfl, B6⟩

set_option maxRecDepth 100000 in
theorem lifted (os : Os) (started : os.Started) (H : Type) (enc : TypeId × Value → H) :
    ReturnsInHanded {} Tryd.checked os 5 .any (fun w args => (Rows.fnExactReadHeatRulesSpec.pre enc Tryd.prog Tryd.f5 [] false w args ∧ laidMetH Tryd.prog Rows.fnExactReadHeatRulesRow.laid w) ∧ sizedMet enc Tryd.prog Tryd.f5 (OpenSpec.ofChange Rows.fnExactReadHeatRulesSpec) false w args)
      (Rows.fnExactReadHeatRulesSpec.post enc Tryd.prog Tryd.f5 false true false false) := by
  refine handed_shaped (C := Tryd.checked) (X := fun w _ => laidMetH Tryd.prog Rows.fnExactReadHeatRulesRow.laid w) (fun _ _ _ hh h => h.of_heap hh) own started (by kernel_rfl) Tryd.func5
    (ChangeSpec.witness_shaped (enc := enc) (C := Tryd.checked) (os := os) (X := fun w _ => laidMetH Tryd.prog Rows.fnExactReadHeatRulesRow.laid w) false (World.laidAll Tryd.prog os Rows.fnExactReadHeatRulesRow.laid) #[.string ⟨#[]⟩] 8 (World.laidAll_os _ _ _) (World.shaped_of_ZipB (by kernel_rfl) (by kernel_rfl)) (by kernel_rfl) (by kernel_rfl) (by kernel_rfl) (by rw [MakeChecks.laidMetH_plain _ _ _ (by kernel_rfl)]; exact laidMet_laidAll _ (by kernel_rfl) (by kernel_rfl))) ?_
  intro W base args ds gs before hval0 hW hL hSh
  have hval : ∀ (j : Nat) t v, Tryd.f5.params[j]? = some t → args[j]? = some v → Value.okWide Tryd.prog W .any base t v := hval0
  have hW' := hW
  obtain ⟨p, q, hA0, hV, rfl, hfz, hnd⟩ := hW
  have hA : DataW.TrodAll enc Tryd.prog W 0 (fun _ => true) true Tryd.f5.params.toList args.toList ds p := hA0
  rw [Tryd.params5] at hA hval
  obtain ⟨v0, vs0, d0, ds0, p0, q0, hargs, rfl, rfl, h0, r0⟩ := trodAll_cons hA
  obtain ⟨rfl, rfl, rfl⟩ := trodAll_nil r0
  obtain rfl : args = #[v0] := by cases args; simp_all
  obtain ⟨rfl, rfl⟩ := trodVars_none hV
  obtain ⟨x0, rfl, rfl, rfl, w0⟩ := open_string Tryd.underlying9 (hval 0 9 v0 rfl rfl) h0
  have hL0 : laidMet Tryd.prog Rows.fnExactReadHeatRulesRow.laid W := by rw [MakeChecks.laidMetH_plain _ _ _ (by kernel_rfl)] at hL; exact hL
  have hE : HEnv W := ⟨tab_of hL0.tail.tail, errs_of hL0.tail.tail.tail.tail, maxl_of hSh⟩
  clear hA0 hval0
  refine (walk x0 W (by unfold maxLen at w0; exact w0) hE).mono fun e W' ⟨he, bel⟩ => ?_
  subst he
  exact ⟨_, rfl, _, _, _, [], _, [], hW', trodAll_mk1 (shut_bool Tryd.underlying4 _), (trodAll_cons_mk (shut_string Tryd.underlying9 w0) trodAll_mk0), rfl, bel.frame _, fun h => by cases h⟩

theorem row_holds : Rows.FnExactReadHeatRulesSaid :=
  OpenClaim.holds_of_wide 5 Tryd.f5 rfl rfl rfl rfl rfl rfl rfl ⟨rfl, rfl, rfl, rfl, rfl⟩ rfl rfl rfl rfl rfl (by kernel_rfl) Tryd.func5 (by kernel_rfl)
    (of_decide_eq_true (by kernel_rfl)) (by unfold Func.isWrapper; first | (rw [if_pos (by decide +kernel)]; kernel_rfl) | (rw [if_neg (by decide +kernel)]; exact ⟨rfl, rfl⟩))
    (fun os started H enc _ => lifted os started H enc)

theorem proved : Rows.FnExactReadHeatRulesCardSaid :=
  Claim7.holds_tied_plain_at .later [] [.data, .data, .data, .data, .sentinel, .sentinel, .pinned] true Rows.fnExactReadHeatRulesCard.stood.harness true
    row_holds (fun _ h => by cases h) (by kernel_rfl) (fun _ h => by cases h) fnExactReadHeatRules_row_tie rfl ⟨rfl, rfl⟩ (by kernel_rfl) rfl
    (fun f fn hf hfn => by
      obtain rfl : f = 5 := Option.some.inj ((show Tryd.prog.funcNamed "loop.example/g01042/laws.FnExactReadHeatRules" = some 5 by kernel_rfl).symm.trans hf) |>.symm
      obtain rfl : fn = Tryd.f5 := (Option.some.inj (Tryd.func5.symm.trans hfn)).symm
      exact ⟨by kernel_rfl, fun j t ht => by
        rw [Tryd.params5] at ht
        have hm : t ∈ [9] := by simpa using Array.mem_of_getElem? ht
        have hall : ([9].all fun u => !Tryd.prog.wantsStandIn u) = true := by kernel_rfl
        exact (show Tryd.prog.wantsStandIn t = false by simpa using List.all_eq_true.1 hall t hm)⟩)
    (by kernel_rfl)
end Go.Proofs.YtoghgbbepjpelaaDoor.lawReadHeatRules
