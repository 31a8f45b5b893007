/- FnExactStepOfLine returns true for every input, and each argument reads afterwards as it read before. No condition. -/
import Derived.Test.YtnccooeaeomjfaaKL
import Derived.Test.YtnccooeaeomjfaaK8
namespace Go.Proofs.Ytnccooeaeomjfaa.lawStepOfLine
open Go.ChangeShapes Go.WideShapes Go.ChangeAt Go.RowKit Go.Joins
open Go.ChangeMaps (open_string shut_string)
set_option linter.unusedVariables false

theorem own : ownKnob Try.prog.godebug = none := by kernel_rfl
theorem laidOut : laidOutB Try.prog = true := by kernel_rfl

set_option maxRecDepth 10000 in
set_option maxHeartbeats 1000000 in
theorem walk (ch : Int) (A : Option Addr) (n c : Nat) (xs : List Int) (ll : ByteArray) (w : World) (hR : Raw w A n xs) (hll : ll.size ≤ 9223372036854775807) :
    Calls Try.prog 8 #[.agg #[.int .i64 ch, .slice A n c], .string ll] w fun e w' => e = .returned (.bool true) ∧ Below w.heap.size w w' := by
  have hbd := hR.bound
  by_cases hbll : (1048576 : Int) < ll.size
  · go_enter Try.func8, Try.ntmps8
    go_wp2_with fail
    go_ret
    exact ⟨rfl, by go_grown⟩
  by_cases hbig : (1048576 : Int) < n
  · have hif : (if (1048576 : Int) < n then (-1 : Int) else 1048576 - n) = -1 := if_pos hbig
    have HIF := Lib.hid hif; clear hif
    go_enter Try.func8, Try.ntmps8
    go_wp2_with (go_at_call 13; refine (szKiln_any _ _ _ _ _ _ hbd (by omega) (by omega)).mono ?_; rw [HIF.out]; rintro e w1 ⟨rfl, hb1⟩; obtain ⟨hc1, hf1⟩ := bcell hb1)
    go_ret
    exact ⟨rfl, bel_tr (by go_grown) hb1⟩
  · have hif : (if (1048576 : Int) < n then (-1 : Int) else 1048576 - n) = 1048576 - n := if_neg hbig
    have HIF := Lib.hid hif; clear hif
    have hA := hR.ints (by omega)
    go_enter Try.func8, Try.ntmps8
    go_wp2_with (go_at_call 13; refine (szKiln_any _ _ _ _ _ _ hbd (by omega) (by omega)).mono ?_; rw [HIF.out]; rintro e w1 ⟨rfl, hb1⟩; obtain ⟨hc1, hf1⟩ := bcell hb1)
    have hz1 := hb1.size
    simp only [World.size_alloc] at hz1
    have L1 : w.heap.size < w1.heap.size := by omega
    have B1 : Below w.heap.size w w1 := bel_tr (by go_grown) hb1
    (refine (toKiln_any _ _ _ _ xs _ (hA.below (by first | (go_grown; done) | (go_split_ands; assumption)))).mono ?_; rintro e w2 ⟨b2, rfl, hI2, hb2⟩; obtain ⟨hc2, hf2⟩ := bcell hb2; have hz2 := hb2.size; (try simp only [World.size_alloc] at hz2); (try simp only [World.size_setCell] at hz2); (try simp only [World.size_drew] at hz2); (try have L2 : w.heap.size < w2.heap.size := by omega); have B2 : Below w.heap.size w w2 := bel_tr (by first | (go_grown; done) | (go_split_ands; assumption)) hb2)
    go_wp2_with fail
    (refine (specStepOfLine_any _ _ _ _ xs _ _ (hI2.below (by first | (go_grown; done) | (go_split_ands; assumption)))).mono ?_; rintro e w3 ⟨rfl, hb3⟩; obtain ⟨hc3, hf3⟩ := bcell hb3; have hz3 := hb3.size; (try simp only [World.size_alloc] at hz3); (try simp only [World.size_setCell] at hz3); (try simp only [World.size_drew] at hz3); (try have L3 : w.heap.size < w3.heap.size := by omega); have B3 : Below w.heap.size w w3 := bel_tr (by first | (go_grown; done) | (go_split_ands; assumption)) hb3)
    go_wp2_with fail
    (refine (toKiln_any _ _ _ _ xs _ (hA.below (by first | (go_grown; done) | (go_split_ands; assumption)))).mono ?_; rintro e w4 ⟨b4, rfl, hI4, hb4⟩; obtain ⟨hc4, hf4⟩ := bcell hb4; have hz4 := hb4.size; (try simp only [World.size_alloc] at hz4); (try simp only [World.size_setCell] at hz4); (try simp only [World.size_drew] at hz4); (try have L4 : w.heap.size < w4.heap.size := by omega); have B4 : Below w.heap.size w w4 := bel_tr (by first | (go_grown; done) | (go_split_ands; assumption)) hb4)
    go_wp2_with fail
    (refine (implStepOfLine_any _ _ _ _ xs _ _ (hI4.below (by first | (go_grown; done) | (go_split_ands; assumption)))).mono ?_; rintro e w5 ⟨rfl, hb5⟩; obtain ⟨hc5, hf5⟩ := bcell hb5; have hz5 := hb5.size; (try simp only [World.size_alloc] at hz5); (try simp only [World.size_setCell] at hz5); (try simp only [World.size_drew] at hz5); (try have L5 : w.heap.size < w5.heap.size := by omega); have B5 : Below w.heap.size w w5 := bel_tr (by first | (go_grown; done) | (go_split_ands; assumption)) hb5)
    have M5 : w4.heap.size < w5.heap.size := by omega
    go_wp2_with fail
    have k0 : w5.cell? ⟨w4.heap.size, 0, none⟩ = some (.int .i64 ch) := by rw [hc5 _ _ (by simp)]; go_simp
    have k1 : w5.cell? ⟨w4.heap.size, 1, none⟩ = some (.slice (some ⟨b4, 0, none⟩) n n) := by rw [hc5 _ _ (by simp)]; go_simp
    have k2 : w5.cell? ⟨w.heap.size, 0, none⟩ = some (.int .i64 ch) := by go_simp
    have k3 : w5.cell? ⟨w.heap.size, 1, none⟩ = some (.slice A n c) := by go_simp
    have hI5 : Ints w5 (some ⟨b4, 0, none⟩) n xs := hI4.below (bel_tr (by go_grown) hb5)
    have hA5 : Ints w5 A n xs := hA.below B5
    clear hc1 hf1 hc2 hf2 hc3 hf3 hc4 hf4 hc5 hf5 hb1 hb2 hb3 hb4 hb5
    go_region_held3 (fun w' => w'.cell? ⟨w4.heap.size, 0, none⟩ = some (.int .i64 ch) ∧ w'.cell? ⟨w4.heap.size, 1, none⟩ = some (.slice (some ⟨b4, 0, none⟩) n n) ∧ w'.cell? ⟨w.heap.size, 0, none⟩ = some (.int .i64 ch) ∧ w'.cell? ⟨w.heap.size, 1, none⟩ = some (.slice A n c) ∧ w.heap.size < w'.heap.size ∧ w4.heap.size < w'.heap.size ∧ Below w5.heap.size w5 w')
      ((try refine ⟨?_, ?_, ?_, ?_, ?_, ?_, ?_⟩) <;> (first | go_keep | (go_grown; done) | (go_split_ands; first | exact (hb1.cell (p := ⟨_, _, none⟩) (by assumption)).trans (by assumption) | exact Nat.lt_of_lt_of_le (by assumption) hb1.size | exact bel_tr (by assumption) hb1)))
      (first | (go_at_call 15; refine (toKiln_any _ _ _ _ xs _ (hA5.below (by first | (go_grown; done) | (go_split_ands; assumption)))).mono ?_; rintro e w1 ⟨b6, rfl, hI6, hb1⟩) | (go_at_call 17; refine (eqKiln_any _ _ _ _ _ _ _ xs _ (hI5.below (by first | (go_grown; done) | (go_split_ands; assumption))) hI6).mono ?_; rintro e w1 ⟨rfl, hb1⟩))
    go_wp2
    go_ret
    exact ⟨rfl, bel_tr B5 (by go_split_ands; assumption)⟩

theorem cells24 : Try.prog.cellsOf 24 = 2 := by kernel_rfl
theorem cells2 : Try.prog.cellsOf 2 = 1 := by kernel_rfl

set_option maxRecDepth 100000 in
theorem lifted (os : Os) (started : os.Started) (H : Type) (enc : TypeId × Value → H) :
    ReturnsInHanded {} Try.checked os 8 .any (Rows.fnExactStepOfLineSpec.pre6 enc Try.prog Try.f8 Rows.fnExactStepOfLineRow.domain false) (Rows.fnExactStepOfLineSpec.post enc Try.prog Try.f8 false true false false) := by
  refine returnsInHanded_of_change (C := Try.checked) own started (by kernel_rfl) Try.func8
    (ChangeSpec.witness6 (enc := enc) (C := Try.checked) false ⟨#[], #[.agg #[.int .i64 0, .slice none 0 0], .string ⟨#[]⟩], []⟩ 8 (by kernel_rfl) (by kernel_rfl) (by kernel_rfl) (by kernel_rfl)) ?_
  intro W base args ds gs before hval0 hW hcnd _
  have hval : ∀ (j : Nat) t v, Try.f8.params[j]? = some t → args[j]? = some v → Value.okWide Try.prog W .any base t v := hval0
  have hW' := hW
  obtain ⟨p, q, hA0, hV, rfl, hfz, hnd⟩ := hW
  have hA : DataW.TrodAll enc Try.prog W 0 (fun _ => true) true Try.f8.params.toList args.toList ds p := hA0
  rw [Try.params8] at hA hval
  obtain ⟨v0, vs0, d0, ds0, p0, q0, hargs, rfl, rfl, h0, r0⟩ := trodAll_cons hA
  obtain ⟨v1, vs1, d1, ds1, p1, q1, rfl, rfl, rfl, h1, r1⟩ := trodAll_cons r0
  obtain ⟨rfl, rfl, rfl⟩ := trodAll_nil r1
  obtain rfl : args = #[v0, v1] := by cases args; simp_all
  obtain ⟨rfl, rfl⟩ := trodVars_none hV
  have t0 := h0
  have lt0 : ∀ x ∈ p0, x.block < W.heap.size := by obtain ⟨m, hm⟩ := t0; exact DataW.trod_lt m _ _ _ hm
  obtain ⟨c0, c1, y0, y1, m, rfl, hd0, hp0, hy0, hy1⟩ := open_agg2 Try.underlying24 (by kernel_rfl) cells24 (hval 0 24 v0 rfl rfl) h0
  obtain ⟨ch, e0, _, wa⟩ := DataW.trod_int Try.underlying2 hy0
  obtain ⟨A, n, c, xs, rfl, hR⟩ := slice_raw Try.underlying22 Try.underlying2 cells2 hy1
  simp at e0
  subst e0
  obtain ⟨ll, rfl, rfl, rfl, w1⟩ := open_string Try.underlying9 (hval 1 9 v1 rfl rfl) h1
  clear hA0 hval0
  refine (walk ch A n c xs ll W hR (by simpa [maxLen] using w1)).mono fun e W' ⟨he, bel⟩ => ?_
  subst he
  exact ⟨_, rfl, _, _, _, [], _, [], hW', trodAll_mk1 (shut_bool Try.underlying4 _), (trodAll_cons_mk (Below.trod laidOut (by kernel_rfl) (of_decide_eq_true (by kernel_rfl)) t0 bel lt0) (trodAll_cons_mk (shut_string Try.underlying9 w1) trodAll_mk0)), rfl, bel.frame _, fun h => by cases h⟩

theorem over : Rows.fnExactStepOfLineRow.holds Try.pinned (OpenSpec.ofChange Rows.fnExactStepOfLineSpec) :=
  OpenClaim.holds_of_wide 8 Try.f8 rfl rfl rfl rfl rfl rfl rfl ⟨rfl, rfl, rfl, rfl, rfl⟩ rfl rfl rfl rfl rfl (by kernel_rfl) Try.func8 (by kernel_rfl)
    (of_decide_eq_true (by kernel_rfl)) (by unfold Func.isWrapper; first | (rw [if_pos (by decide +kernel)]; kernel_rfl) | (rw [if_neg (by decide +kernel)]; exact ⟨rfl, rfl⟩))
    (fun os started H enc _ => lifted os started H enc)

theorem proved : Rows.FnExactStepOfLineSaid := over
end Go.Proofs.Ytnccooeaeomjfaa.lawStepOfLine
