/- FnExactFewestCauses returns true for every input, and each argument reads afterwards as it read before. No condition. -/
import Derived.Test.YtmapjepdcbpalaaCo
import Derived.Test.YtmapjepdcbpalaaFr
import Derived.Test.YtmapjepdcbpalaaPBatch
import Derived.Test.YtmapjepdcbpalaaLs
import Derived.Test.YtmapjepdcbpalaaMBatch
import Derived.Test.YtmapjepdcbpalaaMCause
import Derived.Test.YtmapjepdcbpalaaBG
namespace Go.Proofs.Ytmapjepdcbpalaa.lawFewestCauses
open Go.ChangeShapes Go.WideShapes Go.ChangeAt Go.RowKit Go.Joins
open Go.ChangeMaps (open_string shut_string)
set_option linter.unusedVariables false

theorem own : ownKnob Try.prog.godebug = none := by kernel_rfl
theorem laidOut : laidOutB Try.prog = true := by kernel_rfl

set_option maxRecDepth 10000 in
set_option maxHeartbeats 2000000 in
theorem walk (A0 : Option Addr) (n0 c0 : Nat) (xs0 : List Batch) (w : World) (hR0 : BatchRaw w A0 n0 xs0) :
    Calls Try.prog 12 #[.slice A0 n0 c0] w fun e w' => e = .returned (.bool true) ∧ Below w.heap.size w w' := by
  have hbd0 := hR0.bound
  by_cases hbig0 : (1048576 : Int) < n0
  · go_enter Try.func12, Try.ntmps12
    go_wp2_with fail
    refine (szBatch_big _ _ _ _ _ hbd0 (by omega) (by omega) (by omega)).mono ?_; rintro e w' ⟨rfl, rfl⟩
    go_wp2_with fail
    go_ret
    exact ⟨rfl, by go_grown⟩
  · skip
    have hA0 := hR0.recs (by omega)
    go_enter Try.func12, Try.ntmps12
    go_wp2_with fail
    refine (szBatch_ok _ _ _ _ _ hbd0 (by omega) (by omega) (by omega)).mono ?_; rintro e w' ⟨rfl, rfl⟩
    go_wp2_with fail
    (refine (toBatchS_any _ _ _ xs0 _ (hA0.below (by first | (go_grown; done) | (go_split_ands; assumption)))).mono ?_; rintro e w1 ⟨b1, rfl, hlb1, hI1, hb1⟩; obtain ⟨hc1, hf1⟩ := bcell hb1; have hz1 := hb1.size; (try simp only [World.size_alloc] at hz1); (try simp only [World.size_setCell] at hz1); (try simp only [World.size_drew] at hz1); (try have L1 : w.heap.size < w1.heap.size := by omega); have B1 : Below w.heap.size w w1 := bel_tr (by first | (go_grown; done) | (go_split_ands; assumption)) hb1)
    go_wp2_with fail
    (refine (specFewestCauses_any _ _ _ xs0 _ (hI1.below (Below.refl _ _))).mono ?_; rintro e w2 ⟨Q2, q2, d2, rfl, hI2, hF2, hN2, hb2⟩; obtain ⟨hc2, hf2⟩ := bcell hb2; have hz2 := hb2.size; (try simp only [World.size_alloc] at hz2); (try simp only [World.size_setCell] at hz2); (try simp only [World.size_drew] at hz2); (try have L2 : w.heap.size < w2.heap.size := by omega); have B2 : Below w.heap.size w w2 := bel_tr (by first | (go_grown; done) | (go_split_ands; assumption)) hb2)
    have HN2 := Lib.hid hN2; clear hN2
    go_wp2_with fail
    (refine (toBatchS_fz _ _ _ xs0 _ (hA0.below (by first | (go_grown; done) | (go_split_ands; assumption)))).mono ?_; rintro e w3 ⟨b3, rfl, hlb3, hlt3, hfz3, hI3, hb3⟩; obtain ⟨hc3, hf3⟩ := bcell hb3; have hz3 := hb3.size; (try simp only [World.size_alloc] at hz3); (try simp only [World.size_setCell] at hz3); (try simp only [World.size_drew] at hz3); (try have L3 : w.heap.size < w3.heap.size := by omega); have B3 : Below w.heap.size w w3 := bel_tr (by first | (go_grown; done) | (go_split_ands; assumption)) hb3)
    have HF3 := Lib.hid hfz3; clear hfz3
    go_wp2_with fail
    (refine (implFewestCauses_any _ _ _ xs0 _ (hI3.below (Below.refl _ _))).mono ?_; rintro e w4 ⟨Q4, q4, d4, rfl, hI4, hF4, hN4, hb4⟩; obtain ⟨hc4, hf4⟩ := bcell hb4; have hz4 := hb4.size; (try simp only [World.size_alloc] at hz4); (try simp only [World.size_setCell] at hz4); (try simp only [World.size_drew] at hz4); (try have L4 : w.heap.size < w4.heap.size := by omega); have B4 : Below w.heap.size w w4 := bel_tr (by first | (go_grown; done) | (go_split_ands; assumption)) hb4)
    have HN4 := Lib.hid hN4; clear hN4
    go_wp2_with fail
    (refine (eqCauseS_any _ _ _ _ _ _ _ _ (hI4.below (Below.refl _ _)) (hI2.below (bel_tr (bel_tr (Below.refl _ _) hb3) hb4))).mono ?_; rintro e w5 ⟨rfl, hb5⟩; obtain ⟨hc5, hf5⟩ := bcell hb5; have hz5 := hb5.size; (try simp only [World.size_alloc] at hz5); (try simp only [World.size_setCell] at hz5); (try simp only [World.size_drew] at hz5); (try have L5 : w.heap.size < w5.heap.size := by omega); have B5 : Below w.heap.size w w5 := bel_tr (by first | (go_grown; done) | (go_split_ands; assumption)) hb5)
    go_wp2_with fail
    (refine (toBatchS_any _ _ _ xs0 _ (hA0.below (by first | (go_grown; done) | (go_split_ands; assumption)))).mono ?_; rintro e w6 ⟨b6, rfl, hlb6, hI6, hb6⟩; obtain ⟨hc6, hf6⟩ := bcell hb6; have hz6 := hb6.size; (try simp only [World.size_alloc] at hz6); (try simp only [World.size_setCell] at hz6); (try simp only [World.size_drew] at hz6); (try have L6 : w.heap.size < w6.heap.size := by omega); have B6 : Below w.heap.size w w6 := bel_tr (by first | (go_grown; done) | (go_split_ands; assumption)) hb6)
    go_wp2_with fail
    (refine (eqBatchS_any _ _ _ _ _ _ xs0 _ (hI3.below (bel_tr (bel_tr (bel_tr (Below.refl _ _) hb4) hb5) hb6)) hI6).mono ?_; rintro e w7 ⟨rfl, hb7⟩; obtain ⟨hc7, hf7⟩ := bcell hb7; have hz7 := hb7.size; (try simp only [World.size_alloc] at hz7); (try simp only [World.size_setCell] at hz7); (try simp only [World.size_drew] at hz7); (try have L7 : w.heap.size < w7.heap.size := by omega); have B7 : Below w.heap.size w w7 := bel_tr (by first | (go_grown; done) | (go_split_ands; assumption)) hb7)
    go_wp2_with fail
    refine (markBatch_any _ _ _ xs0 _ _ (hI3.below (bel_tr (bel_tr (bel_tr (bel_tr (Below.refl _ _) hb4) hb5) hb6) hb7)) ((Fz.mk_ HF3.out).of_below (fun b off e => by simp only [Option.some.injEq, Addr.mk.injEq, and_true] at e; omega) (bel_tr (bel_tr (bel_tr (bel_tr (Below.refl _ _) hb4) hb5) hb6) hb7)) (by omega) (by omega)).mono ?_; rintro e w8 ⟨rfl, hMF8, hg8⟩
    have hg8 : w7.grownBy w8 (some b3) := hg8
    have hz8 := hg8.size
    have B8 : Below w.heap.size w w8 := below_grown B7 hg8 (by omega) (fun k hk => by simp only [Option.some.injEq] at hk; omega)
    have hKs8 := (hI2.below (bel_tr (bel_tr (bel_tr (bel_tr (bel_tr (Below.refl _ _) hb3) hb4) hb5) hb6) hb7)).grown hg8 (HN2.out.ne_ge (by omega))
    have hKg8 := (hI4.below (bel_tr (bel_tr (bel_tr (Below.refl _ _) hb5) hb6) hb7)).grown hg8 (HN4.out.ne_lt (by omega))
    have hKF8 : Fz w8 _ := fun b off e o => by
      have h1 := HN4.out.ne_lt (k := b3) (by omega) b off e
      have h2 := HN4.out.lt b off e
      exact (World.frozen?_of_block (hg8.block b (by omega) h1)).trans (hF4.of_below HN4.out.lt (bel_tr (bel_tr (bel_tr (Below.refl _ _) hb5) hb6) hb7) b off e o)
    clear hg8
    go_wp2_with fail
    (refine (eqCauseS_any _ _ _ _ _ _ _ _ (hKg8.below (Below.refl _ _)) (hKs8.below (Below.refl _ _))).mono ?_; rintro e w9 ⟨rfl, hb9⟩; obtain ⟨hc9, hf9⟩ := bcell hb9; have hz9 := hb9.size; (try simp only [World.size_alloc] at hz9); (try simp only [World.size_setCell] at hz9); (try simp only [World.size_drew] at hz9); (try have L9 : w.heap.size < w9.heap.size := by omega); have B9 : Below w.heap.size w w9 := bel_tr (by first | (go_grown; done) | (go_split_ands; assumption)) hb9)
    go_wp2_with fail
    refine (markCause_any _ _ _ _ _ _ (hKg8.below (bel_tr (Below.refl _ _) hb9)) (hKF8.of_below (fun b off e => by have := HN4.out.lt b off e; omega) (bel_tr (Below.refl _ _) hb9)) (by omega) (by omega)).mono ?_; rintro e w10 ⟨rfl, hR10, hMF10, hg10⟩
    have hz10 := hg10.size
    have B10 : Below w.heap.size w w10 := below_grown B9 hg10 (by omega) (HN4.out.row (by omega))
    have hKs10 := (hKs8.below (bel_tr (Below.refl _ _) hb9)).grown hg10 (HN2.out.ne_row HN4.out (by omega))
    clear hg10
    have hqb : q4 ≤ 1048576 := hI4.bound
    go_wp2_with fail
    refine (heldCause_any _ _ _ _ _ hI4.bound (hR10.below (Below.refl _ _)) (by omega) (by omega)).mono ?_; rintro e w' ⟨rfl, rfl⟩
    go_wp2_with fail
    (refine (toBatchS_any _ _ _ xs0 _ (hA0.below (by first | (go_grown; done) | (go_split_ands; assumption)))).mono ?_; rintro e w11 ⟨b11, rfl, hlb11, hI11, hb11⟩; obtain ⟨hc11, hf11⟩ := bcell hb11; have hz11 := hb11.size; (try simp only [World.size_alloc] at hz11); (try simp only [World.size_setCell] at hz11); (try simp only [World.size_drew] at hz11); (try have L11 : w.heap.size < w11.heap.size := by omega); have B11 : Below w.heap.size w w11 := bel_tr (by first | (go_grown; done) | (go_split_ands; assumption)) hb11)
    go_wp2_with fail
    (refine (implFewestCauses_any _ _ _ xs0 _ (hI11.below (Below.refl _ _))).mono ?_; rintro e w12 ⟨Q12, q12, d12, rfl, hI12, hF12, hN12, hb12⟩; obtain ⟨hc12, hf12⟩ := bcell hb12; have hz12 := hb12.size; (try simp only [World.size_alloc] at hz12); (try simp only [World.size_setCell] at hz12); (try simp only [World.size_drew] at hz12); (try have L12 : w.heap.size < w12.heap.size := by omega); have B12 : Below w.heap.size w w12 := bel_tr (by first | (go_grown; done) | (go_split_ands; assumption)) hb12)
    have HN12 := Lib.hid hN12; clear hN12
    go_wp2_with fail
    (refine (eqCauseS_any _ _ _ _ _ _ _ _ (hI12.below (Below.refl _ _)) (hKs10.below (bel_tr (bel_tr (Below.refl _ _) hb11) hb12))).mono ?_; rintro e w13 ⟨rfl, hb13⟩; obtain ⟨hc13, hf13⟩ := bcell hb13; have hz13 := hb13.size; (try simp only [World.size_alloc] at hz13); (try simp only [World.size_setCell] at hz13); (try simp only [World.size_drew] at hz13); (try have L13 : w.heap.size < w13.heap.size := by omega); have B13 : Below w.heap.size w w13 := bel_tr (by first | (go_grown; done) | (go_split_ands; assumption)) hb13)
    go_wp2_with fail
    refine (heldCause_any _ _ _ _ _ hI4.bound (hR10.below (bel_tr (bel_tr (bel_tr (Below.refl _ _) hb11) hb12) hb13)) (by omega) (by omega)).mono ?_; rintro e w' ⟨rfl, rfl⟩
    go_wp2_with fail
    go_ret
    exact ⟨rfl, B13⟩

set_option maxRecDepth 100000 in
theorem lifted (os : Os) (started : os.Started) (H : Type) (enc : TypeId × Value → H) :
    ReturnsInHanded {} Try.checked os 12 .any (Rows.fnExactFewestCausesSpec.pre6 enc Try.prog Try.f12 Rows.fnExactFewestCausesRow.domain false) (Rows.fnExactFewestCausesSpec.post enc Try.prog Try.f12 false true false false) := by
  refine returnsInHanded_of_change (C := Try.checked) own started (by kernel_rfl) Try.func12
    (ChangeSpec.witness6 (enc := enc) (C := Try.checked) false ⟨#[], #[.slice none 0 0], []⟩ 8 (by kernel_rfl) (by kernel_rfl) (by kernel_rfl) (by kernel_rfl)) ?_
  intro W base args ds gs before hval0 hW hcnd _
  have hval : ∀ (j : Nat) t v, Try.f12.params[j]? = some t → args[j]? = some v → Value.okWide Try.prog W .any base t v := hval0
  have hW' := hW
  obtain ⟨p, q, hA0, hV, rfl, hfz, hnd⟩ := hW
  have hA : DataW.TrodAll enc Try.prog W 0 (fun _ => true) true Try.f12.params.toList args.toList ds p := hA0
  rw [Try.params12] at hA hval
  obtain ⟨v0, vs0, d0, ds0, p0, q0, hargs, rfl, rfl, h0, r0⟩ := trodAll_cons hA
  obtain ⟨rfl, rfl, rfl⟩ := trodAll_nil r0
  obtain rfl : args = #[v0] := by cases args; simp_all
  obtain ⟨rfl, rfl⟩ := trodVars_none hV
  have t0 := h0
  have lt0 : ∀ x ∈ p0, x.block < W.heap.size := by obtain ⟨m, hm⟩ := t0; exact DataW.trod_lt m _ _ _ hm
  obtain ⟨A0, n0, c0, rfl⟩ := okWide_slice Try.underlying22 (hval 0 22 v0 rfl rfl)
  obtain ⟨xs0, hR0⟩ := param_Batch h0
  clear hA0 hval0
  refine (walk A0 n0 c0 xs0 W hR0).mono fun e W' ⟨he, bel⟩ => ?_
  subst he
  exact ⟨_, rfl, _, _, _, [], _, [], hW', trodAll_mk1 (shut_bool Try.underlying4 _), (trodAll_cons_mk (Below.trod laidOut (by kernel_rfl) (of_decide_eq_true (by kernel_rfl)) t0 bel lt0) trodAll_mk0), rfl, bel.frame _, fun h => by cases h⟩

theorem over : Rows.fnExactFewestCausesRow.holds Try.pinned (OpenSpec.ofChange Rows.fnExactFewestCausesSpec) :=
  OpenClaim.holds_of_wide 12 Try.f12 rfl rfl rfl rfl rfl rfl rfl ⟨rfl, rfl, rfl, rfl, rfl⟩ rfl rfl rfl rfl rfl (by kernel_rfl) Try.func12 (by kernel_rfl)
    (of_decide_eq_true (by kernel_rfl)) (by unfold Func.isWrapper; first | (rw [if_pos (by decide +kernel)]; kernel_rfl) | (rw [if_neg (by decide +kernel)]; exact ⟨rfl, rfl⟩))
    (fun os started H enc _ => lifted os started H enc)

theorem proved : Rows.FnExactFewestCausesSaid := over
end Go.Proofs.Ytmapjepdcbpalaa.lawFewestCauses
