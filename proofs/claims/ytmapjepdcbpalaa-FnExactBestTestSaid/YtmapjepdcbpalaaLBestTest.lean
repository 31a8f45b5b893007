/- FnExactBestTest returns true for every input, and each argument reads afterwards as it read before. No condition. -/
import Derived.Test.YtmapjepdcbpalaaFr
import Derived.Test.YtmapjepdcbpalaaPBatch
import Derived.Test.YtmapjepdcbpalaaBE2
namespace Go.Proofs.Ytmapjepdcbpalaa.lawBestTest
open Go.ChangeShapes Go.WideShapes Go.ChangeAt Go.RowKit Go.Joins
open Go.ChangeMaps (open_string shut_string)
set_option linter.unusedVariables false

theorem own : ownKnob Try.prog.godebug = none := by kernel_rfl
theorem laidOut : laidOutB Try.prog = true := by kernel_rfl

set_option maxRecDepth 10000 in
set_option maxHeartbeats 2000000 in
theorem walk (A0 : Option Addr) (n0 c0 : Nat) (xs0 : List Batch) (A1 : Option Addr) (n1 c1 : Nat) (xs1 : List Batch) (w : World) (hR0 : BatchRaw w A0 n0 xs0) (hR1 : BatchRaw w A1 n1 xs1) :
    Calls Try.prog 9 #[.slice A0 n0 c0, .slice A1 n1 c1] w fun e w' => e = .returned (.bool true) ∧ Below w.heap.size w w' := by
  have hbd0 := hR0.bound
  have hbd1 := hR1.bound
  by_cases hbig0 : (1048576 : Int) < n0
  · go_enter Try.func9, Try.ntmps9
    go_wp2_with fail
    refine (szBatch_big _ _ _ _ _ hbd0 (by omega) (by omega) (by omega)).mono ?_; rintro e w' ⟨rfl, rfl⟩
    go_wp2_with fail
    go_ret
    exact ⟨rfl, by go_grown⟩
  by_cases hbig1 : (1048576 : Int) - n0 < n1
  · go_enter Try.func9, Try.ntmps9
    go_wp2_with fail
    refine (szBatch_ok _ _ _ _ _ hbd0 (by omega) (by omega) (by omega)).mono ?_; rintro e w' ⟨rfl, rfl⟩
    go_wp2_with fail
    refine (szBatch_big _ _ _ _ _ hbd1 (by omega) (by omega) (by omega)).mono ?_; rintro e w' ⟨rfl, rfl⟩
    go_wp2_with fail
    go_ret
    exact ⟨rfl, by go_grown⟩
  · skip
    have hA0 := hR0.recs (by omega)
    have hA1 := hR1.recs (by omega)
    go_enter Try.func9, Try.ntmps9
    go_wp2_with fail
    refine (szBatch_ok _ _ _ _ _ hbd0 (by omega) (by omega) (by omega)).mono ?_; rintro e w' ⟨rfl, rfl⟩
    go_wp2_with fail
    refine (szBatch_ok _ _ _ _ _ hbd1 (by omega) (by omega) (by omega)).mono ?_; rintro e w' ⟨rfl, rfl⟩
    go_wp2_with fail
    (refine (toBatchS_any _ _ _ xs0 _ (hA0.below (by first | (go_grown; done) | (go_split_ands; assumption)))).mono ?_; rintro e w1 ⟨b1, rfl, hlb1, hI1, hb1⟩; obtain ⟨hc1, hf1⟩ := bcell hb1; have hz1 := hb1.size; (try simp only [World.size_alloc] at hz1); (try simp only [World.size_setCell] at hz1); (try simp only [World.size_drew] at hz1); (try have L1 : w.heap.size < w1.heap.size := by omega); have B1 : Below w.heap.size w w1 := bel_tr (by first | (go_grown; done) | (go_split_ands; assumption)) hb1)
    go_wp2_with fail
    (refine (toBatchS_any _ _ _ xs1 _ (hA1.below (by first | (go_grown; done) | (go_split_ands; assumption)))).mono ?_; rintro e w2 ⟨b2, rfl, hlb2, hI2, hb2⟩; obtain ⟨hc2, hf2⟩ := bcell hb2; have hz2 := hb2.size; (try simp only [World.size_alloc] at hz2); (try simp only [World.size_setCell] at hz2); (try simp only [World.size_drew] at hz2); (try have L2 : w.heap.size < w2.heap.size := by omega); have B2 : Below w.heap.size w w2 := bel_tr (by first | (go_grown; done) | (go_split_ands; assumption)) hb2)
    go_wp2_with fail
    (refine (specBestTest_any _ _ _ xs0 _ _ _ xs1 _ (hI1.below (bel_tr (Below.refl _ _) hb2)) (hI2.below (Below.refl _ _))).mono ?_; rintro e w3 ⟨rfl, hb3⟩; obtain ⟨hc3, hf3⟩ := bcell hb3; have hz3 := hb3.size; (try simp only [World.size_alloc] at hz3); (try simp only [World.size_setCell] at hz3); (try simp only [World.size_drew] at hz3); (try have L3 : w.heap.size < w3.heap.size := by omega); have B3 : Below w.heap.size w w3 := bel_tr (by first | (go_grown; done) | (go_split_ands; assumption)) hb3)
    go_wp2_with fail
    (refine (toBatchS_any _ _ _ xs0 _ (hA0.below (by first | (go_grown; done) | (go_split_ands; assumption)))).mono ?_; rintro e w4 ⟨b4, rfl, hlb4, hI4, hb4⟩; obtain ⟨hc4, hf4⟩ := bcell hb4; have hz4 := hb4.size; (try simp only [World.size_alloc] at hz4); (try simp only [World.size_setCell] at hz4); (try simp only [World.size_drew] at hz4); (try have L4 : w.heap.size < w4.heap.size := by omega); have B4 : Below w.heap.size w w4 := bel_tr (by first | (go_grown; done) | (go_split_ands; assumption)) hb4)
    go_wp2_with fail
    (refine (toBatchS_any _ _ _ xs1 _ (hA1.below (by first | (go_grown; done) | (go_split_ands; assumption)))).mono ?_; rintro e w5 ⟨b5, rfl, hlb5, hI5, hb5⟩; obtain ⟨hc5, hf5⟩ := bcell hb5; have hz5 := hb5.size; (try simp only [World.size_alloc] at hz5); (try simp only [World.size_setCell] at hz5); (try simp only [World.size_drew] at hz5); (try have L5 : w.heap.size < w5.heap.size := by omega); have B5 : Below w.heap.size w w5 := bel_tr (by first | (go_grown; done) | (go_split_ands; assumption)) hb5)
    go_wp2_with fail
    (refine (implBestTest_any _ _ _ xs0 _ _ _ xs1 _ (hI4.below (bel_tr (Below.refl _ _) hb5)) (hI5.below (Below.refl _ _))).mono ?_; rintro e w6 ⟨rfl, hb6⟩; obtain ⟨hc6, hf6⟩ := bcell hb6; have hz6 := hb6.size; (try simp only [World.size_alloc] at hz6); (try simp only [World.size_setCell] at hz6); (try simp only [World.size_drew] at hz6); (try have L6 : w.heap.size < w6.heap.size := by omega); have B6 : Below w.heap.size w w6 := bel_tr (by first | (go_grown; done) | (go_split_ands; assumption)) hb6)
    go_wp2_with fail
    (refine (toBatchS_any _ _ _ xs0 _ (hA0.below (by first | (go_grown; done) | (go_split_ands; assumption)))).mono ?_; rintro e w7 ⟨b7, rfl, hlb7, hI7, hb7⟩; obtain ⟨hc7, hf7⟩ := bcell hb7; have hz7 := hb7.size; (try simp only [World.size_alloc] at hz7); (try simp only [World.size_setCell] at hz7); (try simp only [World.size_drew] at hz7); (try have L7 : w.heap.size < w7.heap.size := by omega); have B7 : Below w.heap.size w w7 := bel_tr (by first | (go_grown; done) | (go_split_ands; assumption)) hb7)
    go_wp2_with fail
    (refine (eqBatchS_any _ _ _ _ _ _ xs0 _ (hI4.below (bel_tr (bel_tr (bel_tr (Below.refl _ _) hb5) hb6) hb7)) hI7).mono ?_; rintro e w8 ⟨rfl, hb8⟩; obtain ⟨hc8, hf8⟩ := bcell hb8; have hz8 := hb8.size; (try simp only [World.size_alloc] at hz8); (try simp only [World.size_setCell] at hz8); (try simp only [World.size_drew] at hz8); (try have L8 : w.heap.size < w8.heap.size := by omega); have B8 : Below w.heap.size w w8 := bel_tr (by first | (go_grown; done) | (go_split_ands; assumption)) hb8)
    go_wp2_with fail
    (refine (toBatchS_any _ _ _ xs1 _ (hA1.below (by first | (go_grown; done) | (go_split_ands; assumption)))).mono ?_; rintro e w9 ⟨b9, rfl, hlb9, hI9, hb9⟩; obtain ⟨hc9, hf9⟩ := bcell hb9; have hz9 := hb9.size; (try simp only [World.size_alloc] at hz9); (try simp only [World.size_setCell] at hz9); (try simp only [World.size_drew] at hz9); (try have L9 : w.heap.size < w9.heap.size := by omega); have B9 : Below w.heap.size w w9 := bel_tr (by first | (go_grown; done) | (go_split_ands; assumption)) hb9)
    go_wp2_with fail
    (refine (eqBatchS_any _ _ _ _ _ _ xs1 _ (hI5.below (bel_tr (bel_tr (bel_tr (bel_tr (Below.refl _ _) hb6) hb7) hb8) hb9)) hI9).mono ?_; rintro e w10 ⟨rfl, hb10⟩; obtain ⟨hc10, hf10⟩ := bcell hb10; have hz10 := hb10.size; (try simp only [World.size_alloc] at hz10); (try simp only [World.size_setCell] at hz10); (try simp only [World.size_drew] at hz10); (try have L10 : w.heap.size < w10.heap.size := by omega); have B10 : Below w.heap.size w w10 := bel_tr (by first | (go_grown; done) | (go_split_ands; assumption)) hb10)
    go_wp2_with fail
    go_ret
    exact ⟨rfl, B10⟩

set_option maxRecDepth 100000 in
theorem lifted (os : Os) (started : os.Started) (H : Type) (enc : TypeId × Value → H) :
    ReturnsInHanded {} Try.checked os 9 .any (Rows.fnExactBestTestSpec.pre6 enc Try.prog Try.f9 Rows.fnExactBestTestRow.domain false) (Rows.fnExactBestTestSpec.post enc Try.prog Try.f9 false true false false) := by
  refine returnsInHanded_of_change (C := Try.checked) own started (by kernel_rfl) Try.func9
    (ChangeSpec.witness6 (enc := enc) (C := Try.checked) false ⟨#[], #[.slice none 0 0, .slice none 0 0], []⟩ 8 (by kernel_rfl) (by kernel_rfl) (by kernel_rfl) (by kernel_rfl)) ?_
  intro W base args ds gs before hval0 hW hcnd _
  have hval : ∀ (j : Nat) t v, Try.f9.params[j]? = some t → args[j]? = some v → Value.okWide Try.prog W .any base t v := hval0
  have hW' := hW
  obtain ⟨p, q, hA0, hV, rfl, hfz, hnd⟩ := hW
  have hA : DataW.TrodAll enc Try.prog W 0 (fun _ => true) true Try.f9.params.toList args.toList ds p := hA0
  rw [Try.params9] at hA hval
  obtain ⟨v0, vs0, d0, ds0, p0, q0, hargs, rfl, rfl, h0, r0⟩ := trodAll_cons hA
  obtain ⟨v1, vs1, d1, ds1, p1, q1, rfl, rfl, rfl, h1, r1⟩ := trodAll_cons r0
  obtain ⟨rfl, rfl, rfl⟩ := trodAll_nil r1
  obtain rfl : args = #[v0, v1] := by cases args; simp_all
  obtain ⟨rfl, rfl⟩ := trodVars_none hV
  have t0 := h0
  have lt0 : ∀ x ∈ p0, x.block < W.heap.size := by obtain ⟨m, hm⟩ := t0; exact DataW.trod_lt m _ _ _ hm
  obtain ⟨A0, n0, c0, rfl⟩ := okWide_slice Try.underlying22 (hval 0 22 v0 rfl rfl)
  obtain ⟨xs0, hR0⟩ := param_Batch h0
  have t1 := h1
  have lt1 : ∀ x ∈ p1, x.block < W.heap.size := by obtain ⟨m, hm⟩ := t1; exact DataW.trod_lt m _ _ _ hm
  obtain ⟨A1, n1, c1, rfl⟩ := okWide_slice Try.underlying22 (hval 1 22 v1 rfl rfl)
  obtain ⟨xs1, hR1⟩ := param_Batch h1
  clear hA0 hval0
  refine (walk A0 n0 c0 xs0 A1 n1 c1 xs1 W hR0 hR1).mono fun e W' ⟨he, bel⟩ => ?_
  subst he
  exact ⟨_, rfl, _, _, _, [], _, [], hW', trodAll_mk1 (shut_bool Try.underlying4 _), (trodAll_cons_mk (Below.trod laidOut (by kernel_rfl) (of_decide_eq_true (by kernel_rfl)) t0 bel lt0) (trodAll_cons_mk (Below.trod laidOut (by kernel_rfl) (of_decide_eq_true (by kernel_rfl)) t1 bel lt1) trodAll_mk0)), rfl, bel.frame _, fun h => by cases h⟩

theorem over : Rows.fnExactBestTestRow.holds Try.pinned (OpenSpec.ofChange Rows.fnExactBestTestSpec) :=
  OpenClaim.holds_of_wide 9 Try.f9 rfl rfl rfl rfl rfl rfl rfl ⟨rfl, rfl, rfl, rfl, rfl⟩ rfl rfl rfl rfl rfl (by kernel_rfl) Try.func9 (by kernel_rfl)
    (of_decide_eq_true (by kernel_rfl)) (by unfold Func.isWrapper; first | (rw [if_pos (by decide +kernel)]; kernel_rfl) | (rw [if_neg (by decide +kernel)]; exact ⟨rfl, rfl⟩))
    (fun os started H enc _ => lifted os started H enc)

theorem proved : Rows.FnExactBestTestSaid := over
end Go.Proofs.Ytmapjepdcbpalaa.lawBestTest
