/- FnExactMeanStrength returns true for every input, and each argument reads afterwards as it read before. No condition. -/
import Derived.Test.YtnibggkjgpgljaaFr
import Derived.Test.YtnibggkjgpgljaaPTested
import Derived.Test.YtnibggkjgpgljaaRFraction
import Derived.Test.YtnibggkjgpgljaaT3
namespace Go.Proofs.Ytnibggkjgpgljaa.lawMeanStrength
open Go.ChangeShapes Go.WideShapes Go.ChangeAt Go.RowKit Go.Joins
open Go.ChangeMaps (open_string shut_string)
set_option linter.unusedVariables false

theorem own : ownKnob Try.prog.godebug = none := by kernel_rfl
theorem laidOut : laidOutB Try.prog = true := by kernel_rfl

set_option maxHeartbeats 1000000 in
theorem walk (A0 : Option Addr) (n0 c0 : Nat) (xs0 : List Tested) (w : World) (hR0 : TestedRaw w A0 n0 xs0) :
    Calls Try.prog 10 #[.slice A0 n0 c0] w fun e w' => e = .returned (.bool true) ∧ Below w.heap.size w w' := by
  have hbd0 := hR0.bound
  by_cases hbig0 : (1048576 : Int) < n0
  · go_enter Try.func10, Try.ntmps10
    go_wp2_with fail
    refine (szTested_big _ _ _ _ _ hbd0 (by omega) (by omega) (by omega)).mono ?_; rintro e w' ⟨rfl, rfl⟩
    go_wp2_with fail
    go_ret
    exact ⟨rfl, by go_grown⟩
  · skip
    have hA0 := hR0.recs (by omega)
    go_enter Try.func10, Try.ntmps10
    go_wp2_with fail
    refine (szTested_ok _ _ _ _ _ hbd0 (by omega) (by omega) (by omega)).mono ?_; rintro e w' ⟨rfl, rfl⟩
    go_wp2_with fail
    (refine (toTestedS_any _ _ _ xs0 _ (hA0.below (Below.refl _ _))).mono ?_; rintro e w1 ⟨b1, rfl, hlb1, hI1, hb1⟩; obtain ⟨hc1, hf1⟩ := bcell hb1; have hz1 := hb1.size; (try simp only [World.size_alloc] at hz1); (try simp only [World.size_setCell] at hz1); (try simp only [World.size_drew] at hz1); (try have L1 : w.heap.size < w1.heap.size := by omega); have B1 : Below w.heap.size w w1 := bel_tr (by first | (go_grown; done) | (go_split_ands; assumption)) hb1)
    go_wp2_with fail
    (refine (specMeanStrength_any _ _ _ xs0 _ (hI1.below (Below.refl _ _))).mono ?_; rintro e w2 ⟨rfl, hb2⟩; obtain ⟨hc2, hf2⟩ := bcell hb2; have hz2 := hb2.size; (try simp only [World.size_alloc] at hz2); (try simp only [World.size_setCell] at hz2); (try simp only [World.size_drew] at hz2); (try have L2 : w.heap.size < w2.heap.size := by omega); have B2 : Below w.heap.size w w2 := bel_tr (by first | (go_grown; done) | (go_split_ands; assumption)) hb2)
    go_wp2_with fail
    generalize hw3 : w2.alloc (Obj.cells #[.int .i64 (meanF xs0).1, .int .i64 (meanF xs0).2.1] 34) = w3
    have hb3 : Below w2.heap.size w2 w3 := by rw [← hw3]; exact (Below.refl _ _).alloc (Nat.le_refl _) _
    have B3 := bel_tr B2 hb3
    have ka3 : w3.cell? ⟨w2.heap.size, 0, none⟩ = some (.int .i64 (meanF xs0).1) := by rw [← hw3]; clear hw3; go_simp
    have kb3 : w3.cell? ⟨w2.heap.size, 1, none⟩ = some (.int .i64 (meanF xs0).2.1) := by rw [← hw3]; clear hw3; go_simp
    have hl3 : w2.heap.size < w3.heap.size := by rw [← hw3]; simp
    have hz3 := hb3.size
    clear hw3
    go_wp2_with fail
    (refine (toTestedS_any _ _ _ xs0 _ (hA0.below (bel_tr (bel_tr (bel_tr (Below.refl _ _) hb1) hb2) hb3))).mono ?_; rintro e w4 ⟨b4, rfl, hlb4, hI4, hb4⟩; obtain ⟨hc4, hf4⟩ := bcell hb4; have hz4 := hb4.size; (try simp only [World.size_alloc] at hz4); (try simp only [World.size_setCell] at hz4); (try simp only [World.size_drew] at hz4); (try have L4 : w.heap.size < w4.heap.size := by omega); have B4 : Below w.heap.size w w4 := bel_tr (by first | (go_grown; done) | (go_split_ands; assumption)) hb4)
    go_wp2_with fail
    (refine (implMeanStrength_any _ _ _ xs0 _ (hI4.below (Below.refl _ _))).mono ?_; rintro e w5 ⟨rfl, hb5⟩; obtain ⟨hc5, hf5⟩ := bcell hb5; have hz5 := hb5.size; (try simp only [World.size_alloc] at hz5); (try simp only [World.size_setCell] at hz5); (try simp only [World.size_drew] at hz5); (try have L5 : w.heap.size < w5.heap.size := by omega); have B5 : Below w.heap.size w w5 := bel_tr (by first | (go_grown; done) | (go_split_ands; assumption)) hb5)
    have fa3 : w5.cell? ⟨w2.heap.size, 0, none⟩ = some (.int .i64 (meanF xs0).1) := (Below.cell (p := ⟨w2.heap.size, 0, none⟩) ((bel_tr (bel_tr (Below.refl _ _) hb4) hb5)) hl3).trans ka3
    have fb3 : w5.cell? ⟨w2.heap.size, 1, none⟩ = some (.int .i64 (meanF xs0).2.1) := (Below.cell (p := ⟨w2.heap.size, 1, none⟩) ((bel_tr (bel_tr (Below.refl _ _) hb4) hb5)) hl3).trans kb3
    have fl3 : w2.heap.size < w5.heap.size := by omega
    go_wp2_with fail
    generalize hw6 : w5.alloc (Obj.cells #[.int .i64 (meanF xs0).1, .int .i64 (meanF xs0).2.1] 34) = w6
    have hb6 : Below w5.heap.size w5 w6 := by rw [← hw6]; exact (Below.refl _ _).alloc (Nat.le_refl _) _
    have B6 := bel_tr B5 hb6
    have ka6 : w6.cell? ⟨w5.heap.size, 0, none⟩ = some (.int .i64 (meanF xs0).1) := by rw [← hw6]; clear hw6; go_simp
    have kb6 : w6.cell? ⟨w5.heap.size, 1, none⟩ = some (.int .i64 (meanF xs0).2.1) := by rw [← hw6]; clear hw6; go_simp
    have hl6 : w5.heap.size < w6.heap.size := by rw [← hw6]; simp
    have hz6 := hb6.size
    clear hw6
    (refine (eqFraction_any ⟨(meanF xs0).1, (meanF xs0).2.1⟩ _).mono ?_; rintro e w7 ⟨rfl, hb7⟩; obtain ⟨hc7, hf7⟩ := bcell hb7; have hz7 := hb7.size; (try simp only [World.size_alloc] at hz7); (try simp only [World.size_setCell] at hz7); (try simp only [World.size_drew] at hz7); (try have L7 : w.heap.size < w7.heap.size := by omega); have B7 : Below w.heap.size w w7 := bel_tr (by first | (go_grown; done) | (go_split_ands; assumption)) hb7)
    go_wp2_with fail
    (refine (toTestedS_any _ _ _ xs0 _ (hA0.below (bel_tr (bel_tr (bel_tr (bel_tr (bel_tr (bel_tr (bel_tr (Below.refl _ _) hb1) hb2) hb3) hb4) hb5) hb6) hb7))).mono ?_; rintro e w8 ⟨b8, rfl, hlb8, hI8, hb8⟩; obtain ⟨hc8, hf8⟩ := bcell hb8; have hz8 := hb8.size; (try simp only [World.size_alloc] at hz8); (try simp only [World.size_setCell] at hz8); (try simp only [World.size_drew] at hz8); (try have L8 : w.heap.size < w8.heap.size := by omega); have B8 : Below w.heap.size w w8 := bel_tr (by first | (go_grown; done) | (go_split_ands; assumption)) hb8)
    go_wp2_with fail
    (refine (eqTestedS_any _ _ _ _ _ _ xs0 _ (hI4.below (bel_tr (bel_tr (bel_tr (bel_tr (Below.refl _ _) hb5) hb6) hb7) hb8)) hI8).mono ?_; rintro e w9 ⟨rfl, hb9⟩; obtain ⟨hc9, hf9⟩ := bcell hb9; have hz9 := hb9.size; (try simp only [World.size_alloc] at hz9); (try simp only [World.size_setCell] at hz9); (try simp only [World.size_drew] at hz9); (try have L9 : w.heap.size < w9.heap.size := by omega); have B9 : Below w.heap.size w w9 := bel_tr (by first | (go_grown; done) | (go_split_ands; assumption)) hb9)
    go_wp2_with fail
    go_ret
    exact ⟨rfl, B9⟩

set_option maxRecDepth 100000 in
theorem lifted (os : Os) (started : os.Started) (H : Type) (enc : TypeId × Value → H) :
    ReturnsInHanded {} Try.checked os 10 .any (Rows.fnExactMeanStrengthSpec.pre6 enc Try.prog Try.f10 Rows.fnExactMeanStrengthRow.domain false) (Rows.fnExactMeanStrengthSpec.post enc Try.prog Try.f10 false true false false) := by
  refine returnsInHanded_of_change (C := Try.checked) own started (by kernel_rfl) Try.func10
    (ChangeSpec.witness6 (enc := enc) (C := Try.checked) false ⟨#[], #[.slice none 0 0], []⟩ 8 (by kernel_rfl) (by kernel_rfl) (by kernel_rfl) (by kernel_rfl)) ?_
  intro W base args ds gs before hval0 hW hcnd _
  have hval : ∀ (j : Nat) t v, Try.f10.params[j]? = some t → args[j]? = some v → Value.okWide Try.prog W .any base t v := hval0
  have hW' := hW
  obtain ⟨p, q, hA0, hV, rfl, hfz, hnd⟩ := hW
  have hA : DataW.TrodAll enc Try.prog W 0 (fun _ => true) true Try.f10.params.toList args.toList ds p := hA0
  rw [Try.params10] at hA hval
  obtain ⟨v0, vs0, d0, ds0, p0, q0, hargs, rfl, rfl, h0, r0⟩ := trodAll_cons hA
  obtain ⟨rfl, rfl, rfl⟩ := trodAll_nil r0
  obtain rfl : args = #[v0] := by cases args; simp_all
  obtain ⟨rfl, rfl⟩ := trodVars_none hV
  have t0 := h0
  have lt0 : ∀ x ∈ p0, x.block < W.heap.size := by obtain ⟨m, hm⟩ := t0; exact DataW.trod_lt m _ _ _ hm
  obtain ⟨A0, n0, c0, rfl⟩ := okWide_slice Try.underlying22 (hval 0 22 v0 rfl rfl)
  obtain ⟨xs0, hR0⟩ := param_Tested h0
  clear hA0 hval0
  refine (walk A0 n0 c0 xs0 W hR0).mono fun e W' ⟨he, bel⟩ => ?_
  subst he
  exact ⟨_, rfl, _, _, _, [], _, [], hW', trodAll_mk1 (shut_bool Try.underlying4 _), (trodAll_cons_mk (Below.trod laidOut (by kernel_rfl) (of_decide_eq_true (by kernel_rfl)) t0 bel lt0) trodAll_mk0), rfl, bel.frame _, fun h => by cases h⟩

theorem over : Rows.fnExactMeanStrengthRow.holds Try.pinned (OpenSpec.ofChange Rows.fnExactMeanStrengthSpec) :=
  OpenClaim.holds_of_wide 10 Try.f10 rfl rfl rfl rfl rfl rfl rfl ⟨rfl, rfl, rfl, rfl, rfl⟩ rfl rfl rfl rfl rfl (by kernel_rfl) Try.func10 (by kernel_rfl)
    (of_decide_eq_true (by kernel_rfl)) (by unfold Func.isWrapper; first | (rw [if_pos (by decide +kernel)]; kernel_rfl) | (rw [if_neg (by decide +kernel)]; exact ⟨rfl, rfl⟩))
    (fun os started H enc _ => lifted os started H enc)

theorem proved : Rows.FnExactMeanStrengthSaid := over
end Go.Proofs.Ytnibggkjgpgljaa.lawMeanStrength
