/- FnExactBatchesWith returns true for every input, and each argument reads afterwards as it read before. No condition. -/
import Derived.Test.YtmapjepdcbpalaaCo
import Derived.Test.YtmapjepdcbpalaaFr
import Derived.Test.YtmapjepdcbpalaaPBatch
import Derived.Test.YtmapjepdcbpalaaRCause
import Derived.Test.YtmapjepdcbpalaaLs
import Derived.Test.YtmapjepdcbpalaaMk
import Derived.Test.YtmapjepdcbpalaaMBatch
import Derived.Deep.DeepCutAuto
import Derived.Test.YtmapjepdcbpalaaB3
namespace Go.Proofs.Ytmapjepdcbpalaa.lawBatchesWith
open Go.ChangeShapes Go.WideShapes Go.ChangeAt Go.RowKit Go.Joins
open Go.ChangeMaps (open_string shut_string)
set_option linter.unusedVariables false

theorem own : ownKnob Try.prog.godebug = none := by kernel_rfl
theorem laidOut : laidOutB Try.prog = true := by kernel_rfl
theorem keepD {W v : World} {b o : Nat} {x : Value} (hb : Below W.drew.heap.size W.drew v) (h : W.cell? ⟨b, o, none⟩ = some x) (hl : b < W.heap.size) : v.cell? ⟨b, o, none⟩ = some x :=
  (hb.cell (p := ⟨b, o, none⟩) hl).trans h

set_option maxRecDepth 10000 in
set_option maxHeartbeats 2000000 in
theorem walk (A0 : Option Addr) (n0 c0 : Nat) (xs0 : List Batch) (x1 : Cause) (w : World) (hR0 : BatchRaw w A0 n0 xs0) :
    Calls Try.prog 6 #[.slice A0 n0 c0, .agg #[.int .i64 x1.Kind, .int .i64 x1.Number]] w fun e w' => e = .returned (.bool true) ∧ Below w.heap.size w w' := by
  have hbd0 := hR0.bound
  by_cases hbig0 : (1048576 : Int) < n0
  · go_enter Try.func6, Try.ntmps6
    go_wp2_with fail
    refine (szBatch_big _ _ _ _ _ hbd0 (by omega) (by omega) (by omega)).mono ?_; rintro e w' ⟨rfl, rfl⟩
    go_wp2_with fail
    go_ret
    exact ⟨rfl, by go_grown⟩
  · skip
    have hA0 := hR0.recs (by omega)
    go_enter Try.func6, Try.ntmps6
    go_wp2_with fail
    refine (szBatch_ok _ _ _ _ _ hbd0 (by omega) (by omega) (by omega)).mono ?_; rintro e w' ⟨rfl, rfl⟩
    go_upto_region 5 with fail
    go_cut [6, 7] (fun sa sb wx => ∃ Q q d, sa = .slice Q q d ∧ sb = .int .i64 (bwC xs0 x1) ∧ Ints wx Q q (bwL xs0 x1) ∧ Fz wx Q ∧ Fresh w wx Q ∧ Below (w.alloc (.cells #[.int .i64 x1.Kind, .int .i64 x1.Number] 41)).heap.size (w.alloc (.cells #[.int .i64 x1.Kind, .int .i64 x1.Number] 41)) wx)
    case first =>
      go_region_with ((first | (go_at_call 15; refine (toBatchS_any _ _ _ xs0 _ (hA0.below (by first | (go_grown; done) | exact below_drew (by go_grown) | assumption | exact below_drew (by assumption)))).mono ?_; rintro e v1 ⟨bb, rfl, hlv1, hV1, hbv1⟩; have HV1 := Lib.hid hV1; clear hV1; obtain ⟨hcv1, hfv1⟩ := bcell hbv1; have hzv1 := hbv1.size; (try simp only [World.size_drew, World.size_alloc] at hzv1); have hlv2 : w.heap.size < v1.heap.size := (by omega)) | (go_at_call 29; refine (toCause_any x1 _).mono ?_; rintro e v2 ⟨rfl, hbv2⟩) | (go_at_call 28; refine (specBatchesWith_any _ _ _ xs0 x1 _ (HV1.out.below (by first | exact hbv2 | exact bel_tr (below_drew (Below.refl _ _)) hbv2))).mono ?_; rintro e v3 ⟨Q, q, d, rfl, hI, hF, hN, hbv3⟩; have HN := Lib.hid hN; clear hN)))
      all_goals
        have T1 : Below (w.alloc (.cells #[.int .i64 x1.Kind, .int .i64 x1.Number] 41)).heap.size (w.alloc (.cells #[.int .i64 x1.Kind, .int .i64 x1.Number] 41)) v1 := by first | exact hbv1 | exact bel_tr (below_drew (Below.refl _ _)) hbv1
        have T2 : Below (w.alloc (.cells #[.int .i64 x1.Kind, .int .i64 x1.Number] 41)).heap.size (w.alloc (.cells #[.int .i64 x1.Kind, .int .i64 x1.Number] 41)) v2 := by first | exact bel_tr T1 hbv2 | exact bel_tr (below_drew T1) hbv2
        have T3 : Below (w.alloc (.cells #[.int .i64 x1.Kind, .int .i64 x1.Number] 41)).heap.size (w.alloc (.cells #[.int .i64 x1.Kind, .int .i64 x1.Number] 41)) v3 := by first | exact bel_tr T2 hbv3 | exact bel_tr (below_drew T2) hbv3
        have hz2 := T2.size
        (try simp only [World.size_alloc] at hz2)
        go_wp2_with fail
        go_meet
        exact ⟨Q, q, d, rfl, rfl, hI, hF, HN.out.mono (by omega) (Nat.le_refl _), T3⟩
    obtain ⟨Q1, q1, d1, rfl, rfl, hI1, hF1, hN1, hb1⟩ := hcut
    obtain ⟨w1, rfl⟩ : ∃ u : World, u = wc := ⟨_, rfl⟩
    have HN1 := Lib.hid hN1; clear hN1
    have hz1 := hb1.size
    simp only [World.size_alloc] at hz1
    have B1 : Below w.heap.size w w1 := Below.trans ((Below.refl _ _).alloc (Nat.le_refl _) _) (hb1.mono (by simp))
    have kc0_1 : w1.cell? ⟨w.heap.size, 0, none⟩ = some (.int .i64 x1.Kind) := (hb1.cell (p := ⟨w.heap.size, 0, none⟩) (by simp)).trans (by go_simp)
    have kc1_1 : w1.cell? ⟨w.heap.size, 1, none⟩ = some (.int .i64 x1.Number) := (hb1.cell (p := ⟨w.heap.size, 1, none⟩) (by simp)).trans (by go_simp)
    have L1 : w.heap.size < w1.heap.size := by omega
    go_wp2_with fail
    (refine (toBatchS_fz _ _ _ xs0 _ (hA0.below (by first | (go_grown; done) | (go_split_ands; assumption)))).mono ?_; rintro e w2 ⟨b2, rfl, hlb2, hlt2, hfz2, hI2, hb2⟩; obtain ⟨hc2, hf2⟩ := bcell hb2; have hz2 := hb2.size; (try simp only [World.size_alloc] at hz2); (try simp only [World.size_setCell] at hz2); (try simp only [World.size_drew] at hz2); (try have L2 : w.heap.size < w2.heap.size := by omega); have B2 : Below w.heap.size w w2 := bel_tr (by first | (go_grown; done) | (go_split_ands; assumption)) hb2)
    have HF2 := Lib.hid hfz2; clear hfz2
    go_wp2_with fail
    (refine (toCause_any x1 _).mono ?_; rintro e w3 ⟨rfl, hb3⟩; obtain ⟨hc3, hf3⟩ := bcell hb3; have hz3 := hb3.size; (try simp only [World.size_alloc] at hz3); (try simp only [World.size_setCell] at hz3); (try simp only [World.size_drew] at hz3); (try have L3 : w.heap.size < w3.heap.size := by omega); have B3 : Below w.heap.size w w3 := bel_tr (by first | (go_grown; done) | (go_split_ands; assumption)) hb3)
    go_wp2_with fail
    (refine (implBatchesWith_any _ _ _ xs0 x1 _ (hI2.below (bel_tr (Below.refl _ _) hb3))).mono ?_; rintro e w4 ⟨Q4, q4, d4, rfl, hI4, hF4, hN4, hb4⟩; obtain ⟨hc4, hf4⟩ := bcell hb4; have hz4 := hb4.size; (try simp only [World.size_alloc] at hz4); (try simp only [World.size_setCell] at hz4); (try simp only [World.size_drew] at hz4); (try have L4 : w.heap.size < w4.heap.size := by omega); have B4 : Below w.heap.size w w4 := bel_tr (by first | (go_grown; done) | (go_split_ands; assumption)) hb4)
    have HN4 := Lib.hid hN4; clear hN4
    go_wp2_with fail
    (refine (eqIntB_any _ _ _ _ _ _ _ _ (hI4.below (Below.refl _ _)) (hI1.below (bel_tr (bel_tr (bel_tr (Below.refl _ _) hb2) hb3) hb4))).mono ?_; rintro e w5 ⟨rfl, hb5⟩; obtain ⟨hc5, hf5⟩ := bcell hb5; have hz5 := hb5.size; (try simp only [World.size_alloc] at hz5); (try simp only [World.size_setCell] at hz5); (try simp only [World.size_drew] at hz5); (try have L5 : w.heap.size < w5.heap.size := by omega); have B5 : Below w.heap.size w w5 := bel_tr (by first | (go_grown; done) | (go_split_ands; assumption)) hb5)
    go_wp2_with fail
    (refine (toBatchS_any _ _ _ xs0 _ (hA0.below (by first | (go_grown; done) | (go_split_ands; assumption)))).mono ?_; rintro e w6 ⟨b6, rfl, hlb6, hI6, hb6⟩; obtain ⟨hc6, hf6⟩ := bcell hb6; have hz6 := hb6.size; (try simp only [World.size_alloc] at hz6); (try simp only [World.size_setCell] at hz6); (try simp only [World.size_drew] at hz6); (try have L6 : w.heap.size < w6.heap.size := by omega); have B6 : Below w.heap.size w w6 := bel_tr (by first | (go_grown; done) | (go_split_ands; assumption)) hb6)
    go_wp2_with fail
    (refine (eqBatchS_any _ _ _ _ _ _ xs0 _ (hI2.below (bel_tr (bel_tr (bel_tr (bel_tr (Below.refl _ _) hb3) hb4) hb5) hb6)) hI6).mono ?_; rintro e w7 ⟨rfl, hb7⟩; obtain ⟨hc7, hf7⟩ := bcell hb7; have hz7 := hb7.size; (try simp only [World.size_alloc] at hz7); (try simp only [World.size_setCell] at hz7); (try simp only [World.size_drew] at hz7); (try have L7 : w.heap.size < w7.heap.size := by omega); have B7 : Below w.heap.size w w7 := bel_tr (by first | (go_grown; done) | (go_split_ands; assumption)) hb7)
    go_wp2_with fail
    refine (markBatch_any _ _ _ xs0 _ _ (hI2.below (bel_tr (bel_tr (bel_tr (bel_tr (bel_tr (Below.refl _ _) hb3) hb4) hb5) hb6) hb7)) ((Fz.mk_ HF2.out).of_below (fun b off e => by simp only [Option.some.injEq, Addr.mk.injEq, and_true] at e; omega) (bel_tr (bel_tr (bel_tr (bel_tr (bel_tr (Below.refl _ _) hb3) hb4) hb5) hb6) hb7)) (by omega) (by omega)).mono ?_; rintro e w8 ⟨rfl, hMF8, hg8⟩
    have hg8 : w7.grownBy w8 (some b2) := hg8
    have hz8 := hg8.size
    have B8 : Below w.heap.size w w8 := below_grown B7 hg8 (by omega) (fun k hk => by simp only [Option.some.injEq] at hk; omega)
    have hKs8 := (hI1.below (bel_tr (bel_tr (bel_tr (bel_tr (bel_tr (bel_tr (Below.refl _ _) hb2) hb3) hb4) hb5) hb6) hb7)).grown hg8 (HN1.out.ne_ge (by omega))
    have hKg8 := (hI4.below (bel_tr (bel_tr (bel_tr (Below.refl _ _) hb5) hb6) hb7)).grown hg8 (HN4.out.ne_lt (by omega))
    have hKF8 : Fz w8 _ := fun b off e o => by
      have h1 := HN4.out.ne_lt (k := b2) (by omega) b off e
      have h2 := HN4.out.lt b off e
      exact (World.frozen?_of_block (hg8.block b (by omega) h1)).trans (hF4.of_below HN4.out.lt (bel_tr (bel_tr (bel_tr (Below.refl _ _) hb5) hb6) hb7) b off e o)
    have kc0_8 := World.grownBy.cell hg8 ((Below.cell (p := ⟨w.heap.size, 0, none⟩) (bel_tr (bel_tr (bel_tr (bel_tr (bel_tr (bel_tr (Below.refl _ _) hb2) hb3) hb4) hb5) hb6) hb7) (show w.heap.size < _ by omega)).trans kc0_1) (by simp; omega)
    have kc1_8 := World.grownBy.cell hg8 ((Below.cell (p := ⟨w.heap.size, 1, none⟩) (bel_tr (bel_tr (bel_tr (bel_tr (bel_tr (bel_tr (Below.refl _ _) hb2) hb3) hb4) hb5) hb6) hb7) (show w.heap.size < _ by omega)).trans kc1_1) (by simp; omega)
    clear hg8
    go_wp2_with fail
    (refine (eqIntB_any _ _ _ _ _ _ _ _ (hKg8.below (Below.refl _ _)) (hKs8.below (Below.refl _ _))).mono ?_; rintro e w9 ⟨rfl, hb9⟩; obtain ⟨hc9, hf9⟩ := bcell hb9; have hz9 := hb9.size; (try simp only [World.size_alloc] at hz9); (try simp only [World.size_setCell] at hz9); (try simp only [World.size_drew] at hz9); (try have L9 : w.heap.size < w9.heap.size := by omega); have B9 : Below w.heap.size w w9 := bel_tr (by first | (go_grown; done) | (go_split_ands; assumption)) hb9)
    go_wp2_with fail
    refine (markInt_any _ _ _ _ _ _ (hKg8.below (bel_tr (Below.refl _ _) hb9)) (hKF8.of_below (fun b off e => by have := HN4.out.lt b off e; omega) (bel_tr (Below.refl _ _) hb9)) (by omega) (by omega)).mono ?_; rintro e w10 ⟨rfl, hR10, hMF10, hg10⟩
    have hz10 := hg10.size
    have B10 : Below w.heap.size w w10 := below_grown B9 hg10 (by omega) (HN4.out.row (by omega))
    have hKs10 := (hKs8.below (bel_tr (Below.refl _ _) hb9)).grown hg10 (HN1.out.ne_row HN4.out (by omega))
    have kc0_10 := World.grownBy.cell hg10 ((Below.cell (p := ⟨w.heap.size, 0, none⟩) (bel_tr (Below.refl _ _) hb9) (show w.heap.size < _ by omega)).trans kc0_8) (fun e => by have h := HN4.out.row (m := w.heap.size + 1) (by omega) _ e.symm; exact Nat.not_succ_le_self _ h)
    have kc1_10 := World.grownBy.cell hg10 ((Below.cell (p := ⟨w.heap.size, 1, none⟩) (bel_tr (Below.refl _ _) hb9) (show w.heap.size < _ by omega)).trans kc1_8) (fun e => by have h := HN4.out.row (m := w.heap.size + 1) (by omega) _ e.symm; exact Nat.not_succ_le_self _ h)
    clear hg10
    have hqb : q4 ≤ 1048576 := hI4.bound
    go_wp2_with fail
    refine (heldInt_any _ _ _ _ _ (hR10.below (Below.refl _ _)) (by omega) (by omega)).mono ?_; rintro e w' ⟨rfl, rfl⟩
    have kk0_10 : w10.cell? ⟨w.heap.size, 0, none⟩ = some (.int .i64 x1.Kind) := ((Below.cell (p := ⟨w.heap.size, 0, none⟩) (Below.refl _ _) (show w.heap.size < _ by omega)).trans kc0_10)
    have kk1_10 : w10.cell? ⟨w.heap.size, 1, none⟩ = some (.int .i64 x1.Number) := ((Below.cell (p := ⟨w.heap.size, 1, none⟩) (Below.refl _ _) (show w.heap.size < _ by omega)).trans kc1_10)
    have LL10 : w.heap.size < w10.heap.size := by omega
    go_upto_region 24 with fail
    go_cut [14, 15] (fun sa sb wx => ∃ Q q d, sa = .slice Q q d ∧ sb = .int .i64 (bwC xs0 x1) ∧ Ints wx Q q (bwL xs0 x1) ∧ Fz wx Q ∧ Fresh w10 wx Q ∧ Below w10.heap.size w10 wx)
    case first =>
      go_region_with ((first | (go_at_call 15; refine (toBatchS_any _ _ _ xs0 _ (hA0.below (by first | (go_grown; done) | exact below_drew (by go_grown) | assumption | exact below_drew (by assumption)))).mono ?_; rintro e v1 ⟨bb, rfl, hlv1, hV1, hbv1⟩; have HV1 := Lib.hid hV1; clear hV1; obtain ⟨hcv1, hfv1⟩ := bcell hbv1; have hzv1 := hbv1.size; (try simp only [World.size_drew] at hzv1); have hlv2 : w.heap.size < v1.heap.size := (by omega); have kb0 := keepD hbv1 kk0_10 LL10; have kb1 := keepD hbv1 kk1_10 LL10) | (go_at_call 29; refine (toCause_any x1 _).mono ?_; rintro e v2 ⟨rfl, hbv2⟩) | (go_at_call 30; refine (implBatchesWith_any _ _ _ xs0 x1 _ (HV1.out.below (by first | exact hbv2 | exact bel_tr (below_drew (Below.refl _ _)) hbv2))).mono ?_; rintro e v3 ⟨Q, q, d, rfl, hI, hF, hN, hbv3⟩; have HN := Lib.hid hN; clear hN)))
      all_goals
        have T1 : Below w10.heap.size w10 v1 := by first | exact hbv1 | exact bel_tr (below_drew (Below.refl _ _)) hbv1
        have T2 : Below w10.heap.size w10 v2 := by first | exact bel_tr T1 hbv2 | exact bel_tr (below_drew T1) hbv2
        have T3 : Below w10.heap.size w10 v3 := by first | exact bel_tr T2 hbv3 | exact bel_tr (below_drew T2) hbv3
        have hz2 := T2.size
        (try simp only [World.size_alloc] at hz2)
        go_wp2_with fail
        go_meet
        exact ⟨Q, q, d, rfl, rfl, hI, hF, HN.out.mono (by omega) (Nat.le_refl _), T3⟩
    obtain ⟨Q11, q11, d11, rfl, rfl, hI11, hF11, hN11, hb11⟩ := hcut
    obtain ⟨w11, rfl⟩ : ∃ u : World, u = wc := ⟨_, rfl⟩
    have HN11 := Lib.hid hN11; clear hN11
    have hz11 := hb11.size
    have B11 : Below w.heap.size w w11 := B10.trans (hb11.mono (by omega))
    have L11 : w.heap.size < w11.heap.size := by omega
    go_wp2_with fail
    (refine (eqIntB_any _ _ _ _ _ _ _ _ (hI11.below (Below.refl _ _)) (hKs10.below (bel_tr (Below.refl _ _) hb11))).mono ?_; rintro e w12 ⟨rfl, hb12⟩; obtain ⟨hc12, hf12⟩ := bcell hb12; have hz12 := hb12.size; (try simp only [World.size_alloc] at hz12); (try simp only [World.size_setCell] at hz12); (try simp only [World.size_drew] at hz12); (try have L12 : w.heap.size < w12.heap.size := by omega); have B12 : Below w.heap.size w w12 := bel_tr (by first | (go_grown; done) | (go_split_ands; assumption)) hb12)
    go_wp2_with fail
    refine (heldInt_any _ _ _ _ _ (hR10.below (bel_tr (bel_tr (Below.refl _ _) hb11) hb12)) (by omega) (by omega)).mono ?_; rintro e w' ⟨rfl, rfl⟩
    go_wp2_with fail
    go_ret
    exact ⟨rfl, B12⟩

theorem cells2 : Try.prog.cellsOf 2 = 1 := by kernel_rfl

theorem cells41 : Try.prog.cellsOf 41 = 2 := by kernel_rfl

set_option maxRecDepth 100000 in
theorem lifted (os : Os) (started : os.Started) (H : Type) (enc : TypeId × Value → H) :
    ReturnsInHanded {} Try.checked os 6 .any (Rows.fnExactBatchesWithSpec.pre6 enc Try.prog Try.f6 Rows.fnExactBatchesWithRow.domain false) (Rows.fnExactBatchesWithSpec.post enc Try.prog Try.f6 false true false false) := by
  refine returnsInHanded_of_change (C := Try.checked) own started (by kernel_rfl) Try.func6
    (ChangeSpec.witness6 (enc := enc) (C := Try.checked) false ⟨#[], #[.slice none 0 0, .agg #[.int .i64 0, .int .i64 0]], []⟩ 8 (by kernel_rfl) (by kernel_rfl) (by kernel_rfl) (by kernel_rfl)) ?_
  intro W base args ds gs before hval0 hW hcnd _
  have hval : ∀ (j : Nat) t v, Try.f6.params[j]? = some t → args[j]? = some v → Value.okWide Try.prog W .any base t v := hval0
  have hW' := hW
  obtain ⟨p, q, hA0, hV, rfl, hfz, hnd⟩ := hW
  have hA : DataW.TrodAll enc Try.prog W 0 (fun _ => true) true Try.f6.params.toList args.toList ds p := hA0
  rw [Try.params6] at hA hval
  obtain ⟨v0, vs0, d0, ds0, p0, q0, hargs, rfl, rfl, h0, r0⟩ := trodAll_cons hA
  obtain ⟨v1, vs1, d1, ds1, p1, q1, rfl, rfl, rfl, h1, r1⟩ := trodAll_cons r0
  obtain ⟨rfl, rfl, rfl⟩ := trodAll_nil r1
  obtain rfl : args = #[v0, v1] := by cases args; simp_all
  obtain ⟨rfl, rfl⟩ := trodVars_none hV
  have t0 := h0
  have lt0 : ∀ x ∈ p0, x.block < W.heap.size := by obtain ⟨m, hm⟩ := t0; exact DataW.trod_lt m _ _ _ hm
  obtain ⟨A0, n0, c0, rfl⟩ := okWide_slice Try.underlying22 (hval 0 22 v0 rfl rfl)
  obtain ⟨xs0, hR0⟩ := param_Batch h0
  have t1 := h1
  have lt1 : ∀ x ∈ p1, x.block < W.heap.size := by obtain ⟨m, hm⟩ := t1; exact DataW.trod_lt m _ _ _ hm
  obtain ⟨cc10, cc11, y10, y11, mm1, rfl, hd1, hp1, hy10, hy11⟩ := open_agg2 Try.underlying41 (by kernel_rfl) cells41 (hval 1 41 v1 rfl rfl) h1
  obtain ⟨z10, e10, _, wa10⟩ := DataW.trod_int Try.underlying2 hy10
  simp at e10
  subst e10
  obtain ⟨z11, e11, _, wa11⟩ := DataW.trod_int Try.underlying2 hy11
  simp at e11
  subst e11
  clear hA0 hval0
  refine (walk A0 n0 c0 xs0 ⟨z10, z11⟩ W hR0).mono fun e W' ⟨he, bel⟩ => ?_
  subst he
  exact ⟨_, rfl, _, _, _, [], _, [], hW', trodAll_mk1 (shut_bool Try.underlying4 _), (trodAll_cons_mk (Below.trod laidOut (by kernel_rfl) (of_decide_eq_true (by kernel_rfl)) t0 bel lt0) (trodAll_cons_mk (Below.trod laidOut (by kernel_rfl) (of_decide_eq_true (by kernel_rfl)) t1 bel lt1) trodAll_mk0)), rfl, bel.frame _, fun h => by cases h⟩

theorem over : Rows.fnExactBatchesWithRow.holds Try.pinned (OpenSpec.ofChange Rows.fnExactBatchesWithSpec) :=
  OpenClaim.holds_of_wide 6 Try.f6 rfl rfl rfl rfl rfl rfl rfl ⟨rfl, rfl, rfl, rfl, rfl⟩ rfl rfl rfl rfl rfl (by kernel_rfl) Try.func6 (by kernel_rfl)
    (of_decide_eq_true (by kernel_rfl)) (by unfold Func.isWrapper; first | (rw [if_pos (by decide +kernel)]; kernel_rfl) | (rw [if_neg (by decide +kernel)]; exact ⟨rfl, rfl⟩))
    (fun os started H enc _ => lifted os started H enc)

theorem proved : Rows.FnExactBatchesWithSaid := over
end Go.Proofs.Ytmapjepdcbpalaa.lawBatchesWith
