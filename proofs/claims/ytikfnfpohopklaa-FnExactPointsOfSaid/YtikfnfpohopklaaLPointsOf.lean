/- FnExactPointsOf returns true for every input, and each argument reads afterwards as it read before. No condition. -/
import Derived.Test.YtikfnfpohopklaaCo
import Derived.Test.YtikfnfpohopklaaFr
import Derived.Test.YtikfnfpohopklaaLs
import Derived.Test.YtikfnfpohopklaaMk
import Derived.Test.YtikfnfpohopklaaW4
namespace Go.Proofs.Ytikfnfpohopklaa.lawPointsOf
open Go.ChangeShapes Go.WideShapes Go.ChangeAt Go.RowKit Go.Joins
open Go.ChangeMaps (open_string shut_string)
set_option linter.unusedVariables false

theorem own : ownKnob Try.prog.godebug = none := by kernel_rfl
theorem laidOut : laidOutB Try.prog = true := by kernel_rfl

set_option maxRecDepth 10000 in
set_option maxHeartbeats 2000000 in
theorem walk (x0 : ByteArray) (w : World) (hs0 : x0.size ≤ 9223372036854775807) :
    Calls Try.prog 6 #[.string x0] w fun e w' => e = .returned (.bool true) ∧ Below w.heap.size w w' := by
  by_cases hbig0 : (1048576 : Int) < x0.size
  · go_enter Try.func6, Try.ntmps6
    go_wp2_with fail
    go_ret
    exact ⟨rfl, by go_grown⟩
  · skip
    go_enter Try.func6, Try.ntmps6
    go_wp2_with fail
    (refine (specPointsOf_any x0 _ hs0).mono ?_; rintro e w1 ⟨Q1, q1, d1, rfl, hI1, hF1, hN1, hb1⟩; obtain ⟨hc1, hf1⟩ := bcell hb1; have hz1 := hb1.size; (try simp only [World.size_alloc] at hz1); (try simp only [World.size_setCell] at hz1); (try simp only [World.size_drew] at hz1); (try have L1 : w.heap.size < w1.heap.size := by omega); have B1 : Below w.heap.size w w1 := bel_tr (by first | (go_grown; done) | (go_split_ands; assumption)) hb1)
    have HN1 := Lib.hid hN1; clear hN1
    go_wp2_with fail
    (refine (implPointsOf_any x0 _ hs0).mono ?_; rintro e w2 ⟨Q2, q2, d2, rfl, hI2, hF2, hN2, hb2⟩; obtain ⟨hc2, hf2⟩ := bcell hb2; have hz2 := hb2.size; (try simp only [World.size_alloc] at hz2); (try simp only [World.size_setCell] at hz2); (try simp only [World.size_drew] at hz2); (try have L2 : w.heap.size < w2.heap.size := by omega); have B2 : Below w.heap.size w w2 := bel_tr (by first | (go_grown; done) | (go_split_ands; assumption)) hb2)
    have HN2 := Lib.hid hN2; clear hN2
    go_wp2_with fail
    (refine (eqIntB_any _ _ _ _ _ _ _ _ (hI2.below (Below.refl _ _)) (hI1.below (bel_tr (Below.refl _ _) hb2))).mono ?_; rintro e w3 ⟨rfl, hb3⟩; obtain ⟨hc3, hf3⟩ := bcell hb3; have hz3 := hb3.size; (try simp only [World.size_alloc] at hz3); (try simp only [World.size_setCell] at hz3); (try simp only [World.size_drew] at hz3); (try have L3 : w.heap.size < w3.heap.size := by omega); have B3 : Below w.heap.size w w3 := bel_tr (by first | (go_grown; done) | (go_split_ands; assumption)) hb3)
    go_wp2_with fail
    refine (markInt_any _ _ _ _ _ _ (hI2.below (bel_tr (Below.refl _ _) hb3)) (hF2.of_below (fun b off e => by have := HN2.out.lt b off e; omega) (bel_tr (Below.refl _ _) hb3)) (by omega) (by omega)).mono ?_; rintro e w4 ⟨rfl, hR4, hMF4, hg4⟩
    have hz4 := hg4.size
    have B4 : Below w.heap.size w w4 := below_grown B3 hg4 (by omega) (HN2.out.row (by omega))
    have hKs4 := (hI1.below (bel_tr (bel_tr (Below.refl _ _) hb2) hb3)).grown hg4 (HN1.out.ne_row HN2.out (by omega))
    clear hg4
    have hqb : q2 ≤ 1048576 := hI2.bound
    go_wp2_with fail
    refine (heldInt_any _ _ _ _ _ (hR4.below (Below.refl _ _)) (by omega) (by omega)).mono ?_; rintro e w' ⟨rfl, rfl⟩
    go_wp2_with fail
    (refine (implPointsOf_any x0 _ hs0).mono ?_; rintro e w5 ⟨Q5, q5, d5, rfl, hI5, hF5, hN5, hb5⟩; obtain ⟨hc5, hf5⟩ := bcell hb5; have hz5 := hb5.size; (try simp only [World.size_alloc] at hz5); (try simp only [World.size_setCell] at hz5); (try simp only [World.size_drew] at hz5); (try have L5 : w.heap.size < w5.heap.size := by omega); have B5 : Below w.heap.size w w5 := bel_tr (by first | (go_grown; done) | (go_split_ands; assumption)) hb5)
    have HN5 := Lib.hid hN5; clear hN5
    go_wp2_with fail
    (refine (eqIntB_any _ _ _ _ _ _ _ _ (hI5.below (Below.refl _ _)) (hKs4.below (bel_tr (Below.refl _ _) hb5))).mono ?_; rintro e w6 ⟨rfl, hb6⟩; obtain ⟨hc6, hf6⟩ := bcell hb6; have hz6 := hb6.size; (try simp only [World.size_alloc] at hz6); (try simp only [World.size_setCell] at hz6); (try simp only [World.size_drew] at hz6); (try have L6 : w.heap.size < w6.heap.size := by omega); have B6 : Below w.heap.size w w6 := bel_tr (by first | (go_grown; done) | (go_split_ands; assumption)) hb6)
    go_wp2_with fail
    refine (heldInt_any _ _ _ _ _ (hR4.below (bel_tr (bel_tr (Below.refl _ _) hb5) hb6)) (by omega) (by omega)).mono ?_; rintro e w' ⟨rfl, rfl⟩
    go_wp2_with fail
    go_ret
    exact ⟨rfl, B6⟩

set_option maxRecDepth 100000 in
theorem lifted (os : Os) (started : os.Started) (H : Type) (enc : TypeId × Value → H) :
    ReturnsInHanded {} Try.checked os 6 .any (Rows.fnExactPointsOfSpec.pre6 enc Try.prog Try.f6 Rows.fnExactPointsOfRow.domain false) (Rows.fnExactPointsOfSpec.post enc Try.prog Try.f6 false true false false) := by
  refine returnsInHanded_of_change (C := Try.checked) own started (by kernel_rfl) Try.func6
    (ChangeSpec.witness6 (enc := enc) (C := Try.checked) false ⟨#[], #[.string ⟨#[]⟩], []⟩ 8 (by kernel_rfl) (by kernel_rfl) (by kernel_rfl) (by kernel_rfl)) ?_
  intro W base args ds gs before hval0 hW hcnd _
  have hval : ∀ (j : Nat) t v, Try.f6.params[j]? = some t → args[j]? = some v → Value.okWide Try.prog W .any base t v := hval0
  have hW' := hW
  obtain ⟨p, q, hA0, hV, rfl, hfz, hnd⟩ := hW
  have hA : DataW.TrodAll enc Try.prog W 0 (fun _ => true) true Try.f6.params.toList args.toList ds p := hA0
  rw [Try.params6] at hA hval
  obtain ⟨v0, vs0, d0, ds0, p0, q0, hargs, rfl, rfl, h0, r0⟩ := trodAll_cons hA
  obtain ⟨rfl, rfl, rfl⟩ := trodAll_nil r0
  obtain rfl : args = #[v0] := by cases args; simp_all
  obtain ⟨rfl, rfl⟩ := trodVars_none hV
  obtain ⟨x0, rfl, rfl, rfl, w0⟩ := open_string Try.underlying9 (hval 0 9 v0 rfl rfl) h0
  clear hA0 hval0
  refine (walk x0 W (by simpa [maxLen] using w0)).mono fun e W' ⟨he, bel⟩ => ?_
  subst he
  exact ⟨_, rfl, _, _, _, [], _, [], hW', trodAll_mk1 (shut_bool Try.underlying4 _), (trodAll_cons_mk (shut_string Try.underlying9 w0) trodAll_mk0), rfl, bel.frame _, fun h => by cases h⟩

theorem over : Rows.fnExactPointsOfRow.holds Try.pinned (OpenSpec.ofChange Rows.fnExactPointsOfSpec) :=
  OpenClaim.holds_of_wide 6 Try.f6 rfl rfl rfl rfl rfl rfl rfl ⟨rfl, rfl, rfl, rfl, rfl⟩ rfl rfl rfl rfl rfl (by kernel_rfl) Try.func6 (by kernel_rfl)
    (of_decide_eq_true (by kernel_rfl)) (by unfold Func.isWrapper; first | (rw [if_pos (by decide +kernel)]; kernel_rfl) | (rw [if_neg (by decide +kernel)]; exact ⟨rfl, rfl⟩))
    (fun os started H enc _ => lifted os started H enc)

theorem proved : Rows.FnExactPointsOfSaid := over
end Go.Proofs.Ytikfnfpohopklaa.lawPointsOf
