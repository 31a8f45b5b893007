/- FnExactPassChance returns true for every input, and each argument reads afterwards as it read before. No condition. -/
import Derived.Test.YtnibggkjgpgljaaFr
import Derived.Test.YtnibggkjgpgljaaRFraction
import Derived.Test.YtnibggkjgpgljaaT6
namespace Go.Proofs.Ytnibggkjgpgljaa.lawPassChance
open Go.ChangeShapes Go.WideShapes Go.ChangeAt Go.RowKit Go.Joins
open Go.ChangeMaps (open_string shut_string)
set_option linter.unusedVariables false

theorem own : ownKnob Try.prog.godebug = none := by kernel_rfl
theorem laidOut : laidOutB Try.prog = true := by kernel_rfl

set_option maxHeartbeats 1000000 in
theorem walk (x0 : Int) (x1 : Int) (x2 : Int) (x3 : Int) (w : World) :
    Calls Try.prog 6 #[.int .i64 x0, .int .i64 x1, .int .i64 x2, .int .i64 x3] w fun e w' => e = .returned (.bool true) ∧ Below w.heap.size w w' := by
  · skip
    go_enter Try.func6, Try.ntmps6
    go_wp2_with fail
    (refine (specPassChance_any _ _ _ _ _).mono ?_; rintro e w1 ⟨rfl, hb1⟩; obtain ⟨hc1, hf1⟩ := bcell hb1; have hz1 := hb1.size; (try simp only [World.size_alloc] at hz1); (try simp only [World.size_setCell] at hz1); (try simp only [World.size_drew] at hz1); (try have L1 : w.heap.size < w1.heap.size := by omega); have B1 : Below w.heap.size w w1 := bel_tr (by first | (go_grown; done) | (go_split_ands; assumption)) hb1)
    go_wp2_with fail
    generalize hw2 : w1.alloc (Obj.cells #[.int .i64 (passF x0 x1 x2 x3).1, .int .i64 (passF x0 x1 x2 x3).2.1] 34) = w2
    have hb2 : Below w1.heap.size w1 w2 := by rw [← hw2]; exact (Below.refl _ _).alloc (Nat.le_refl _) _
    have B2 := bel_tr B1 hb2
    have ka2 : w2.cell? ⟨w1.heap.size, 0, none⟩ = some (.int .i64 (passF x0 x1 x2 x3).1) := by rw [← hw2]; clear hw2; go_simp
    have kb2 : w2.cell? ⟨w1.heap.size, 1, none⟩ = some (.int .i64 (passF x0 x1 x2 x3).2.1) := by rw [← hw2]; clear hw2; go_simp
    have hl2 : w1.heap.size < w2.heap.size := by rw [← hw2]; simp
    have hz2 := hb2.size
    clear hw2
    go_wp2_with fail
    (refine (implPassChance_any _ _ _ _ _).mono ?_; rintro e w3 ⟨rfl, hb3⟩; obtain ⟨hc3, hf3⟩ := bcell hb3; have hz3 := hb3.size; (try simp only [World.size_alloc] at hz3); (try simp only [World.size_setCell] at hz3); (try simp only [World.size_drew] at hz3); (try have L3 : w.heap.size < w3.heap.size := by omega); have B3 : Below w.heap.size w w3 := bel_tr (by first | (go_grown; done) | (go_split_ands; assumption)) hb3)
    have fa2 : w3.cell? ⟨w1.heap.size, 0, none⟩ = some (.int .i64 (passF x0 x1 x2 x3).1) := (Below.cell (p := ⟨w1.heap.size, 0, none⟩) ((bel_tr (Below.refl _ _) hb3)) hl2).trans ka2
    have fb2 : w3.cell? ⟨w1.heap.size, 1, none⟩ = some (.int .i64 (passF x0 x1 x2 x3).2.1) := (Below.cell (p := ⟨w1.heap.size, 1, none⟩) ((bel_tr (Below.refl _ _) hb3)) hl2).trans kb2
    have fl2 : w1.heap.size < w3.heap.size := by omega
    go_wp2_with fail
    generalize hw4 : w3.alloc (Obj.cells #[.int .i64 (passF x0 x1 x2 x3).1, .int .i64 (passF x0 x1 x2 x3).2.1] 34) = w4
    have hb4 : Below w3.heap.size w3 w4 := by rw [← hw4]; exact (Below.refl _ _).alloc (Nat.le_refl _) _
    have B4 := bel_tr B3 hb4
    have ka4 : w4.cell? ⟨w3.heap.size, 0, none⟩ = some (.int .i64 (passF x0 x1 x2 x3).1) := by rw [← hw4]; clear hw4; go_simp
    have kb4 : w4.cell? ⟨w3.heap.size, 1, none⟩ = some (.int .i64 (passF x0 x1 x2 x3).2.1) := by rw [← hw4]; clear hw4; go_simp
    have hl4 : w3.heap.size < w4.heap.size := by rw [← hw4]; simp
    have hz4 := hb4.size
    clear hw4
    (refine (eqFraction_any ⟨(passF x0 x1 x2 x3).1, (passF x0 x1 x2 x3).2.1⟩ _).mono ?_; rintro e w5 ⟨rfl, hb5⟩; obtain ⟨hc5, hf5⟩ := bcell hb5; have hz5 := hb5.size; (try simp only [World.size_alloc] at hz5); (try simp only [World.size_setCell] at hz5); (try simp only [World.size_drew] at hz5); (try have L5 : w.heap.size < w5.heap.size := by omega); have B5 : Below w.heap.size w w5 := bel_tr (by first | (go_grown; done) | (go_split_ands; assumption)) hb5)
    go_wp2_with fail
    go_ret
    exact ⟨rfl, B5⟩

set_option maxRecDepth 100000 in
theorem lifted (os : Os) (started : os.Started) (H : Type) (enc : TypeId × Value → H) :
    ReturnsInHanded {} Try.checked os 6 .any (Rows.fnExactPassChanceSpec.pre6 enc Try.prog Try.f6 Rows.fnExactPassChanceRow.domain false) (Rows.fnExactPassChanceSpec.post enc Try.prog Try.f6 false true false false) := by
  refine returnsInHanded_of_change (C := Try.checked) own started (by kernel_rfl) Try.func6
    (ChangeSpec.witness6 (enc := enc) (C := Try.checked) false ⟨#[], #[.int .i64 0, .int .i64 0, .int .i64 0, .int .i64 0], []⟩ 8 (by kernel_rfl) (by kernel_rfl) (by kernel_rfl) (by kernel_rfl)) ?_
  intro W base args ds gs before hval0 hW hcnd _
  have hval : ∀ (j : Nat) t v, Try.f6.params[j]? = some t → args[j]? = some v → Value.okWide Try.prog W .any base t v := hval0
  have hW' := hW
  obtain ⟨p, q, hA0, hV, rfl, hfz, hnd⟩ := hW
  have hA : DataW.TrodAll enc Try.prog W 0 (fun _ => true) true Try.f6.params.toList args.toList ds p := hA0
  rw [Try.params6] at hA hval
  obtain ⟨v0, vs0, d0, ds0, p0, q0, hargs, rfl, rfl, h0, r0⟩ := trodAll_cons hA
  obtain ⟨v1, vs1, d1, ds1, p1, q1, rfl, rfl, rfl, h1, r1⟩ := trodAll_cons r0
  obtain ⟨v2, vs2, d2, ds2, p2, q2, rfl, rfl, rfl, h2, r2⟩ := trodAll_cons r1
  obtain ⟨v3, vs3, d3, ds3, p3, q3, rfl, rfl, rfl, h3, r3⟩ := trodAll_cons r2
  obtain ⟨rfl, rfl, rfl⟩ := trodAll_nil r3
  obtain rfl : args = #[v0, v1, v2, v3] := by cases args; simp_all
  obtain ⟨rfl, rfl⟩ := trodVars_none hV
  obtain ⟨x0, rfl, rfl, rfl, w0⟩ := open_int Try.underlying2 (hval 0 2 v0 rfl rfl) h0
  obtain ⟨x1, rfl, rfl, rfl, w1⟩ := open_int Try.underlying2 (hval 1 2 v1 rfl rfl) h1
  obtain ⟨x2, rfl, rfl, rfl, w2⟩ := open_int Try.underlying2 (hval 2 2 v2 rfl rfl) h2
  obtain ⟨x3, rfl, rfl, rfl, w3⟩ := open_int Try.underlying2 (hval 3 2 v3 rfl rfl) h3
  clear hA0 hval0
  refine (walk x0 x1 x2 x3 W).mono fun e W' ⟨he, bel⟩ => ?_
  subst he
  exact ⟨_, rfl, _, _, _, [], _, [], hW', trodAll_mk1 (shut_bool Try.underlying4 _), (trodAll_cons_mk (shut_int Try.underlying2 w0) (trodAll_cons_mk (shut_int Try.underlying2 w1) (trodAll_cons_mk (shut_int Try.underlying2 w2) (trodAll_cons_mk (shut_int Try.underlying2 w3) trodAll_mk0)))), rfl, bel.frame _, fun h => by cases h⟩

theorem over : Rows.fnExactPassChanceRow.holds Try.pinned (OpenSpec.ofChange Rows.fnExactPassChanceSpec) :=
  OpenClaim.holds_of_wide 6 Try.f6 rfl rfl rfl rfl rfl rfl rfl ⟨rfl, rfl, rfl, rfl, rfl⟩ rfl rfl rfl rfl rfl (by kernel_rfl) Try.func6 (by kernel_rfl)
    (of_decide_eq_true (by kernel_rfl)) (by unfold Func.isWrapper; first | (rw [if_pos (by decide +kernel)]; kernel_rfl) | (rw [if_neg (by decide +kernel)]; exact ⟨rfl, rfl⟩))
    (fun os started H enc _ => lifted os started H enc)

theorem proved : Rows.FnExactPassChanceSaid := over
end Go.Proofs.Ytnibggkjgpgljaa.lawPassChance
