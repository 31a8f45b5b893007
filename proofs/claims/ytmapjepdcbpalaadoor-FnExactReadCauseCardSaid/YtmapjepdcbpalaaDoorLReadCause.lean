/- FnExactReadCause returns true for every input, and the argument reads afterwards as it read before; the listed tables hold what the program's text lays (tied). No condition. -/
import Derived.Test.YtmapjepdcbpalaaDoorRCS
import Derived.Test.YtmapjepdcbpalaaDoorHs
import Derived.Test.YtmapjepdcbpalaaDoorFr
import Derived.Test.YtmapjepdcbpalaaDoorTie
import Derived.Test.YtmapjepdcbpalaaDoorCards
import Derived.Stop.Joined
import Derived.SevenTiedAt
namespace Go.Proofs.YtmapjepdcbpalaaDoor.lawReadCause
open Go.ChangeShapes Go.WideShapes Go.ChangeAt Go.WideMaps Go.WideElems Go.RowKit Go.Joins
open Go.ChangeMaps (open_string shut_string)
set_option linter.unusedVariables false

theorem own : ownKnob Tryd.prog.godebug = none := by kernel_rfl
theorem laidOut : laidOutB Tryd.prog = true := by kernel_rfl

theorem door_met (os : Os) (args : Array Value) : laidMetH Tryd.prog Rows.fnExactReadCauseRow.laid ((World.doorLaid Tryd.prog 400 os).forCall (fun _ _ => 0) ⟨#[], args, []⟩).memory :=
  laidMetH_of_parts3 (fuel := 8) (laidMet_of_run' 8 (by kernel_rfl) (by kernel_rfl)) (by kernel_rfl) (by kernel_rfl)

theorem readV_form (l : List UInt8) : ∃ (c : Cause) (b : Bool), readV l = .tuple #[.agg #[.int .i64 c.Kind, .int .i64 c.Number], .bool b] := by
  unfold readV
  split
  · exact ⟨_, _, rfl⟩
  · exact ⟨⟨0, 0⟩, _, rfl⟩
set_option maxHeartbeats 1000000 in
theorem walk (s : ByteArray) (w : World) (hs : s.size ≤ 9223372036854775807) (hE : Env w) :
    Calls Tryd.prog 4 #[.string s] w fun e w' => e = .returned (.bool true) ∧ Below w.heap.size w w' := by
  have HE := Lib.hid hE
  clear hE
  by_cases hbig : (1048576 : Int) < s.size
  · go_enter Tryd.func4, Tryd.ntmps4
    go_wp2_with fail
    go_ret
    exact ⟨rfl, Below.refl _ _⟩
  · have hs1 : s.size ≤ 1048576 := by omega
    obtain ⟨c, b, hv⟩ := readV_form s.data.toList
    have h1 := fun W => specReadCause_any s W hs1
    have h2 := fun W hW => implReadCause_any s W hs1 hW
    rw [hv] at h1 h2
    clear hv
    obtain ⟨k, n⟩ := c
    go_enter Tryd.func4, Tryd.ntmps4
    go_wp2_with fail
    (refine (h1 _).mono ?_; rintro e w1 ⟨rfl, hb1⟩; obtain ⟨hc1, hf1⟩ := bcell hb1; have hz1 := hb1.size; (try simp only [World.size_alloc] at hz1); (try simp only [World.size_setCell] at hz1); (try simp only [World.size_drew] at hz1); (try have L1 : w.heap.size < w1.heap.size := by omega); have B1 : Below w.heap.size w w1 := bel_tr (by first | (go_grown; done) | (go_split_ands; assumption)) hb1)
    go_wp2_with fail
    refine (h2 _ (HE.out.below (bel_tr B1 (by first | (go_grown; done) | (go_split_ands; assumption))))).mono ?_; rintro e w2 ⟨rfl, hb2⟩
    have B2 : Below w.heap.size w w2 := bel_tr (bel_tr B1 (by first | (go_grown; done) | (go_split_ands; assumption))) hb2
    obtain ⟨hc2, hf2⟩ := bcell hb2
    have hz2 := hb2.size; simp only [World.size_alloc] at hz2
    have d0 : w2.cell? ⟨w1.heap.size, 0, none⟩ = some (.int .i64 k) := (hc2 _ 0 (by simp)).trans (by go_simp)
    have d1 : w2.cell? ⟨w1.heap.size, 1, none⟩ = some (.int .i64 n) := (hc2 _ 1 (by simp)).trans (by go_simp)
    have hne : w1.heap.size ≠ w2.heap.size := by omega
    have hlt : w1.heap.size < w2.heap.size := by omega
    clear hc2 hf2 hc1 hf1
    go_wp2_with fail
    refine (eqCause_any ⟨k, n⟩ _).mono ?_; rintro e w3 ⟨rfl, hb3⟩
    have B3 : Below w.heap.size w w3 := bel_tr (bel_tr B2 (by first | (go_grown; done) | (go_split_ands; assumption))) hb3
    cases b with
    | true =>
      go_wp2_with fail
      go_ret
      exact ⟨rfl, B3⟩
    | false =>
      go_wp2_with fail
      go_ret
      exact ⟨rfl, B3⟩

set_option maxRecDepth 100000 in
theorem lifted (os : Os) (started : os.Started) (H : Type) (enc : TypeId × Value → H) :
    ReturnsInHanded {} Tryd.checked os 4 .any (fun w args => (Rows.fnExactReadCauseSpec.pre enc Tryd.prog Tryd.f4 [] false w args ∧ laidMetH Tryd.prog Rows.fnExactReadCauseRow.laid w) ∧ sizedMet enc Tryd.prog Tryd.f4 (OpenSpec.ofChange Rows.fnExactReadCauseSpec) false w args)
      (Rows.fnExactReadCauseSpec.post enc Tryd.prog Tryd.f4 false true false false) := by
  refine handed_shaped (C := Tryd.checked) (X := fun w _ => laidMetH Tryd.prog Rows.fnExactReadCauseRow.laid w) (fun _ _ _ hh h => h.of_heap hh) own started (by kernel_rfl) Tryd.func4
    (ChangeSpec.witness_shaped (enc := enc) (C := Tryd.checked) (os := os) (X := fun w _ => laidMetH Tryd.prog Rows.fnExactReadCauseRow.laid w) false (World.doorLaid Tryd.prog 400 os) #[.string ⟨#[]⟩] 8 rfl (World.shaped_of_RefB (by kernel_rfl) (by kernel_rfl)) (by kernel_rfl) (by kernel_rfl) (by kernel_rfl) (door_met os _)) ?_
  intro W base args ds gs before hval0 hW hL hSh
  have hval : ∀ (j : Nat) t v, Tryd.f4.params[j]? = some t → args[j]? = some v → Value.okWide Tryd.prog W .any base t v := hval0
  have hW' := hW
  obtain ⟨p, q, hA0, hV, rfl, hfz, hnd⟩ := hW
  have hA : DataW.TrodAll enc Tryd.prog W 0 (fun _ => true) true Tryd.f4.params.toList args.toList ds p := hA0
  rw [Tryd.params4] at hA hval
  obtain ⟨v0, vs0, d0, ds0, p0, q0, hargs, rfl, rfl, h0, r0⟩ := trodAll_cons hA
  obtain ⟨rfl, rfl, rfl⟩ := trodAll_nil r0
  obtain rfl : args = #[v0] := by cases args; simp_all
  obtain ⟨gv, hgs⟩ : ∃ gv, gs = [gv] := by obtain ⟨g, t, cs, fuel, d, p', rfl, _⟩ := trodVars_one hV; exact ⟨d, rfl⟩
  obtain ⟨x0, rfl, rfl, rfl, w0⟩ := open_string Tryd.underlying9 (hval 0 9 v0 rfl rfl) h0
  have hL0 : laidMet Tryd.prog Rows.fnExactReadCauseRow.laid W := by rw [MakeChecks.laidMetH_plain _ _ _ (by kernel_rfl)] at hL; exact hL
  have hE : Env W := ⟨tab_of hL0.tail.tail, errs_of hL0.tail.tail.tail, names_of hL0.tail.tail.tail.tail.tail, maxl_of hSh⟩
  clear hA0 hval0
  refine (walk x0 W (by unfold maxLen at w0; exact w0) hE).mono fun e W' ⟨he, bel⟩ => ?_
  subst he
  have hV' := Below.trodVars laidOut bel (by kernel_rfl) hV
  subst hgs
  exact ⟨_, rfl, _, _, _, [], _, q, hW', trodAll_mk1 (shut_bool Tryd.underlying4 _), (trodAll_cons_mk (shut_string Tryd.underlying9 w0) trodAll_mk0), hV', bel.frame _, fun h => by cases h⟩

theorem row_holds : Rows.FnExactReadCauseSaid :=
  OpenClaim.holds_of_wide 4 Tryd.f4 rfl rfl rfl rfl rfl rfl rfl ⟨rfl, rfl, rfl, rfl, rfl⟩ rfl rfl rfl rfl rfl (by kernel_rfl) Tryd.func4 (by kernel_rfl)
    (of_decide_eq_true (by kernel_rfl)) (by unfold Func.isWrapper; first | (rw [if_pos (by decide +kernel)]; kernel_rfl) | (rw [if_neg (by decide +kernel)]; exact ⟨rfl, rfl⟩))
    (fun os started H enc _ => lifted os started H enc)

theorem proved : Rows.FnExactReadCauseCardSaid :=
  Claim7.holds_tied_plain_at .later [] [.data, .data, .data, .sentinel, .sentinel, .widerDeep] true Rows.fnExactReadCauseCard.stood.harness true
    row_holds (fun _ h => by cases h) (by kernel_rfl) (fun _ h => by cases h) fnExactReadCause_row_tie rfl ⟨rfl, rfl⟩ (by kernel_rfl) rfl
    (fun f fn hf hfn => by
      obtain rfl : f = 4 := Option.some.inj ((show Tryd.prog.funcNamed "loop.example/g01042/laws.FnExactReadCause" = some 4 by kernel_rfl).symm.trans hf) |>.symm
      obtain rfl : fn = Tryd.f4 := (Option.some.inj (Tryd.func4.symm.trans hfn)).symm
      exact ⟨by kernel_rfl, fun j t ht => by
        rw [Tryd.params4] at ht
        have hm : t ∈ [9] := by simpa using Array.mem_of_getElem? ht
        have hall : ([9].all fun u => !Tryd.prog.wantsStandIn u) = true := by kernel_rfl
        exact (show Tryd.prog.wantsStandIn t = false by simpa using List.all_eq_true.1 hall t hm)⟩)
    (by kernel_rfl)
end Go.Proofs.YtmapjepdcbpalaaDoor.lawReadCause
