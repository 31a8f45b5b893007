/- FnExactHottestHour returns true for every input, and each argument reads afterwards as it read before. No condition. -/
import Derived.Test.YtampdkdllkdikaaCo
import Derived.Test.YtampdkdllkdikaaFr
import Derived.Test.YtampdkdllkdikaaH2
namespace Go.Proofs.Ytampdkdllkdikaa.lawHottestHour
open Go.ChangeShapes Go.WideShapes Go.ChangeAt Go.RowKit Go.Joins
set_option linter.unusedVariables false

theorem own : ownKnob Try.prog.godebug = none := by kernel_rfl
theorem laidOut : laidOutB Try.prog = true := by kernel_rfl

set_option maxHeartbeats 1000000 in
theorem walk (A : Option Addr) (n c : Nat) (xs : List Int) (w : World) (hR : Raw w A n xs) :
    Calls Try.prog 9 #[.slice A n c] w fun e w' => e = .returned (.bool true) ∧ Below w.heap.size w w' := by
  have hbd := hR.bound
  by_cases hbig : (1048576 : Int) < n
  · go_enter Try.func9, Try.ntmps9
    go_wp2_with fail
    go_ret
    exact ⟨rfl, by go_grown⟩
  · have hA := hR.ints (by omega)
    go_enter Try.func9, Try.ntmps9
    go_wp2_with fail
    (refine (toInt_any _ _ _ xs _ (hA.below (by first | (go_grown; done) | (go_split_ands; assumption)))).mono ?_; rintro e w2 ⟨b2, rfl, hlb2, hI2, hb2⟩; obtain ⟨hc2, hf2⟩ := bcell hb2; have hz2 := hb2.size; (try simp only [World.size_alloc] at hz2); (try simp only [World.size_setCell] at hz2); (try simp only [World.size_drew] at hz2); (try have L2 : w.heap.size < w2.heap.size := by omega); have B2 : Below w.heap.size w w2 := bel_tr (by first | (go_grown; done) | (go_split_ands; assumption)) hb2)
    go_wp2_with fail
    (refine (specHottestHour_any _ _ _ xs _ (hI2.below (by first | (go_grown; done) | (go_split_ands; assumption)))).mono ?_; rintro e w3 ⟨rfl, hb3⟩; obtain ⟨hc3, hf3⟩ := bcell hb3; have hz3 := hb3.size; (try simp only [World.size_alloc] at hz3); (try simp only [World.size_setCell] at hz3); (try simp only [World.size_drew] at hz3); (try have L3 : w.heap.size < w3.heap.size := by omega); have B3 : Below w.heap.size w w3 := bel_tr (by first | (go_grown; done) | (go_split_ands; assumption)) hb3)
    go_wp2_with fail
    (refine (toInt_any _ _ _ xs _ (hA.below (by first | (go_grown; done) | (go_split_ands; assumption)))).mono ?_; rintro e w4 ⟨b4, rfl, hlb4, hI4, hb4⟩; obtain ⟨hc4, hf4⟩ := bcell hb4; have hz4 := hb4.size; (try simp only [World.size_alloc] at hz4); (try simp only [World.size_setCell] at hz4); (try simp only [World.size_drew] at hz4); (try have L4 : w.heap.size < w4.heap.size := by omega); have B4 : Below w.heap.size w w4 := bel_tr (by first | (go_grown; done) | (go_split_ands; assumption)) hb4)
    go_wp2_with fail
    (refine (implHottestHour_any _ _ _ xs _ (hI4.below (by first | (go_grown; done) | (go_split_ands; assumption)))).mono ?_; rintro e w5 ⟨rfl, hb5⟩; obtain ⟨hc5, hf5⟩ := bcell hb5; have hz5 := hb5.size; (try simp only [World.size_alloc] at hz5); (try simp only [World.size_setCell] at hz5); (try simp only [World.size_drew] at hz5); (try have L5 : w.heap.size < w5.heap.size := by omega); have B5 : Below w.heap.size w w5 := bel_tr (by first | (go_grown; done) | (go_split_ands; assumption)) hb5)
    go_wp2_with fail
    (refine (toInt_any _ _ _ xs _ (hA.below (by first | (go_grown; done) | (go_split_ands; assumption)))).mono ?_; rintro e w6 ⟨b6, rfl, hlb6, hI6, hb6⟩; obtain ⟨hc6, hf6⟩ := bcell hb6; have hz6 := hb6.size; (try simp only [World.size_alloc] at hz6); (try simp only [World.size_setCell] at hz6); (try simp only [World.size_drew] at hz6); (try have L6 : w.heap.size < w6.heap.size := by omega); have B6 : Below w.heap.size w w6 := bel_tr (by first | (go_grown; done) | (go_split_ands; assumption)) hb6)
    go_wp2_with fail
    have hI6' : Ints w6 (some ⟨b4, 0, none⟩) n xs := hI4.below (bel_tr (bel_tr (Below.refl _ _) hb5) hb6)
    refine (asB (eqInt_any _ _ _ _ _ _ xs xs _ hI6' hI6) (decide_eq_true rfl)).mono ?_; rintro e w' ⟨rfl, q, rfl⟩
    go_wp2_with fail
    go_ret
    exact ⟨rfl, below_drewN B6 _⟩

theorem cells2 : Try.prog.cellsOf 2 = 1 := by kernel_rfl

set_option maxRecDepth 100000 in
theorem lifted (os : Os) (started : os.Started) (H : Type) (enc : TypeId × Value → H) :
    ReturnsInHanded {} Try.checked os 9 .any (Rows.fnExactHottestHourSpec.pre6 enc Try.prog Try.f9 Rows.fnExactHottestHourRow.domain false) (Rows.fnExactHottestHourSpec.post enc Try.prog Try.f9 false true false false) := by
  refine returnsInHanded_of_change (C := Try.checked) own started (by kernel_rfl) Try.func9
    (ChangeSpec.witness6 (enc := enc) (C := Try.checked) false ⟨#[], #[.slice none 0 0], []⟩ 8 (by kernel_rfl) (by kernel_rfl) (by kernel_rfl) (by kernel_rfl)) ?_
  intro W base args ds gs before hval0 hW hcnd _
  have hval : ∀ (j : Nat) t v, Try.f9.params[j]? = some t → args[j]? = some v → Value.okWide Try.prog W .any base t v := hval0
  have hW' := hW
  obtain ⟨p, q, hA0, hV, rfl, hfz, hnd⟩ := hW
  have hA : DataW.TrodAll enc Try.prog W 0 (fun _ => true) true Try.f9.params.toList args.toList ds p := hA0
  rw [Try.params9] at hA hval
  obtain ⟨v0, vs0, d0, ds0, p0, q0, hargs, rfl, rfl, h0, r0⟩ := trodAll_cons hA
  obtain ⟨rfl, rfl, rfl⟩ := trodAll_nil r0
  obtain rfl : args = #[v0] := by cases args; simp_all
  obtain ⟨rfl, rfl⟩ := trodVars_none hV
  have t0 := h0
  have lt0 : ∀ x ∈ p0, x.block < W.heap.size := by obtain ⟨m, hm⟩ := t0; exact DataW.trod_lt m _ _ _ hm
  obtain ⟨A, n, c, rfl⟩ := okWide_slice Try.underlying30 (hval 0 30 v0 rfl rfl)
  obtain ⟨xs, hR⟩ := param_raw Try.underlying30 Try.underlying2 cells2 h0
  clear hA0 hval0
  refine (walk A n c xs  W hR).mono fun e W' ⟨he, bel⟩ => ?_
  subst he
  exact ⟨_, rfl, _, _, _, [], _, [], hW', trodAll_mk1 (shut_bool Try.underlying4 _), (trodAll_cons_mk (Below.trod laidOut (by kernel_rfl) (of_decide_eq_true (by kernel_rfl)) t0 bel lt0) trodAll_mk0), rfl, bel.frame _, fun h => by cases h⟩

theorem over : Rows.fnExactHottestHourRow.holds Try.pinned (OpenSpec.ofChange Rows.fnExactHottestHourSpec) :=
  OpenClaim.holds_of_wide 9 Try.f9 rfl rfl rfl rfl rfl rfl rfl ⟨rfl, rfl, rfl, rfl, rfl⟩ rfl rfl rfl rfl rfl (by kernel_rfl) Try.func9 (by kernel_rfl)
    (of_decide_eq_true (by kernel_rfl)) (by unfold Func.isWrapper; first | (rw [if_pos (by decide +kernel)]; kernel_rfl) | (rw [if_neg (by decide +kernel)]; exact ⟨rfl, rfl⟩))
    (fun os started H enc _ => lifted os started H enc)

theorem proved : Rows.FnExactHottestHourSaid := over
end Go.Proofs.Ytampdkdllkdikaa.lawHottestHour
