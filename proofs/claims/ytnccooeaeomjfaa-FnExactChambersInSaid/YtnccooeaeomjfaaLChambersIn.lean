/- FnExactChambersIn returns true for every input, and each argument reads afterwards as it read before. No condition. -/
import Derived.Test.YtnccooeaeomjfaaKL2
import Derived.Test.YtnccooeaeomjfaaK10
namespace Go.Proofs.Ytnccooeaeomjfaa.lawChambersIn
open Go.ChangeShapes Go.WideShapes Go.ChangeAt Go.RowKit Go.Joins
open Go.ChangeMaps (open_string shut_string)
set_option linter.unusedVariables false

theorem own : ownKnob Try.prog.godebug = none := by kernel_rfl
theorem laidOut : laidOutB Try.prog = true := by kernel_rfl

set_option maxRecDepth 10000 in
set_option maxHeartbeats 1000000 in
theorem walk (ch : Int) (A : Option Addr) (n c : Nat) (xs : List Int) (cc : Int) (ss : Int) (w : World) (hR : Raw w A n xs) :
    Calls Try.prog 11 #[.agg #[.int .i64 ch, .slice A n c], .int .i64 cc, .int .i64 ss] w fun e w' => e = .returned (.bool true) ∧ Below w.heap.size w w' := by
  have hbd := hR.bound
  by_cases hbig : (1048576 : Int) < n
  · have hif : (if (1048576 : Int) < n then (-1 : Int) else 1048576 - n) = -1 := if_pos hbig
    have HIF := Lib.hid hif; clear hif
    go_enter Try.func11, Try.ntmps11
    go_wp2_with (go_at_call 13; refine (szKiln_any _ _ _ _ _ _ hbd (by omega) (by omega)).mono ?_; rw [HIF.out]; rintro e w1 ⟨rfl, hb1⟩; obtain ⟨hc1, hf1⟩ := bcell hb1)
    go_ret
    exact ⟨rfl, bel_tr (by go_grown) hb1⟩
  · have hif : (if (1048576 : Int) < n then (-1 : Int) else 1048576 - n) = 1048576 - n := if_neg hbig
    have HIF := Lib.hid hif; clear hif
    have hA := hR.ints (by omega)
    go_enter Try.func11, Try.ntmps11
    go_wp2_with (go_at_call 13; refine (szKiln_any _ _ _ _ _ _ hbd (by omega) (by omega)).mono ?_; rw [HIF.out]; rintro e w1 ⟨rfl, hb1⟩; obtain ⟨hc1, hf1⟩ := bcell hb1)
    have hz1 := hb1.size
    simp only [World.size_alloc] at hz1
    have L1 : w.heap.size < w1.heap.size := by omega
    have B1 : Below w.heap.size w w1 := bel_tr (by go_grown) hb1
    (refine (toKiln_any _ _ _ _ xs _ (hA.below (by first | (go_grown; done) | (go_split_ands; assumption)))).mono ?_; rintro e w2 ⟨b2, rfl, hI2, hb2⟩; obtain ⟨hc2, hf2⟩ := bcell hb2; have hz2 := hb2.size; (try simp only [World.size_alloc] at hz2); (try simp only [World.size_setCell] at hz2); (try simp only [World.size_drew] at hz2); (try have L2 : w.heap.size < w2.heap.size := by omega); have B2 : Below w.heap.size w w2 := bel_tr (by first | (go_grown; done) | (go_split_ands; assumption)) hb2)
    go_wp2_with fail
    (refine (specChambersIn_any _ _ _ _ xs _ _ _ (hI2.below (by first | (go_grown; done) | (go_split_ands; assumption)))).mono ?_; rintro e w3 ⟨Q3, q3, d3, rfl, hS3, hF3, hN3, hb3⟩; obtain ⟨hc3, hf3⟩ := bcell hb3; have hz3 := hb3.size; (try simp only [World.size_alloc] at hz3); (try simp only [World.size_setCell] at hz3); (try simp only [World.size_drew] at hz3); (try have L3 : w.heap.size < w3.heap.size := by omega); have B3 : Below w.heap.size w w3 := bel_tr (by first | (go_grown; done) | (go_split_ands; assumption)) hb3)
    have HN3 := Lib.hid hN3; clear hN3
    go_wp2_with fail
    (refine (toKiln_fz _ _ _ _ xs _ (hA.below (by first | (go_grown; done) | (go_split_ands; assumption)))).mono ?_; rintro e w4 ⟨b4, rfl, hlb4, hlt4, hfz4, hI4, hb4⟩; obtain ⟨hc4, hf4⟩ := bcell hb4; have hz4 := hb4.size; (try simp only [World.size_alloc] at hz4); (try simp only [World.size_setCell] at hz4); (try simp only [World.size_drew] at hz4); (try have L4 : w.heap.size < w4.heap.size := by omega); have B4 : Below w.heap.size w w4 := bel_tr (by first | (go_grown; done) | (go_split_ands; assumption)) hb4)
    have HFZ4 := Lib.hid hfz4; clear hfz4
    go_wp2_with fail
    have A4 : Below w4.heap.size w4 (w4.alloc (.cells #[.int .i64 ch, .slice (some ⟨b4, 0, none⟩) n n] 27)) := (Below.refl _ _).alloc (Nat.le_refl _) _
    (refine (implChambersIn_any _ _ _ _ xs _ _ _ (hI4.below (by first | (go_grown; done) | (go_split_ands; assumption)))).mono ?_; rintro e w5 ⟨Q5, q5, d5, rfl, hG5, hF5, hN5, hb5⟩; obtain ⟨hc5, hf5⟩ := bcell hb5; have hz5 := hb5.size; (try simp only [World.size_alloc] at hz5); (try simp only [World.size_setCell] at hz5); (try simp only [World.size_drew] at hz5); (try have L5 : w.heap.size < w5.heap.size := by omega); have B5 : Below w.heap.size w w5 := bel_tr (by first | (go_grown; done) | (go_split_ands; assumption)) hb5)
    have HN5 := Lib.hid hN5; clear hN5
    have M5 : w4.heap.size < w5.heap.size := by omega
    have C45 : Below w4.heap.size w4 w5 := bel_tr A4 hb5
    have C35 : Below w3.heap.size w3 w5 := bel_tr hb4 C45
    have k0 : w5.cell? ⟨w4.heap.size, 0, none⟩ = some (.int .i64 ch) := by rw [hc5 _ _ (by simp)]; go_simp
    have k1 : w5.cell? ⟨w4.heap.size, 1, none⟩ = some (.slice (some ⟨b4, 0, none⟩) n n) := by rw [hc5 _ _ (by simp)]; go_simp
    have k2 : w5.cell? ⟨w.heap.size, 0, none⟩ = some (.int .i64 ch) := by go_simp
    have k3 : w5.cell? ⟨w.heap.size, 1, none⟩ = some (.slice A n c) := by go_simp
    clear hc1 hf1 hc2 hf2 hc3 hf3 hc4 hf4 hc5 hf5
    go_wp2_with fail
    (refine (eqIntB_any _ _ _ _ _ _ _ _ (hG5.below (Below.refl _ _)) (hS3.below C35)).mono ?_; rintro e w6 ⟨rfl, hb6⟩; obtain ⟨hc6, hf6⟩ := bcell hb6; have hz6 := hb6.size; (try simp only [World.size_alloc] at hz6); (try simp only [World.size_setCell] at hz6); (try simp only [World.size_drew] at hz6); (try have L6 : w.heap.size < w6.heap.size := by omega); have B6 : Below w.heap.size w w6 := bel_tr (by first | (go_grown; done) | (go_split_ands; assumption)) hb6)
    have j0 := (hb6.cell (p := ⟨w4.heap.size, 0, none⟩) M5).trans k0
    have j1 := (hb6.cell (p := ⟨w4.heap.size, 1, none⟩) M5).trans k1
    have j2 := (hb6.cell (p := ⟨w.heap.size, 0, none⟩) L5).trans k2
    have j3 := (hb6.cell (p := ⟨w.heap.size, 1, none⟩) L5).trans k3
    have M6 : w4.heap.size < w6.heap.size := by omega
    have hI6 : Ints w6 (some ⟨b4, 0, none⟩) n xs := hI4.below (bel_tr C45 hb6)
    have hA6 : Ints w6 A n xs := hA.below B6
    have KEEP := Lib.hid (And.intro hb1 (And.intro hb2 (And.intro hb3 (And.intro hb4 hb5))))
    clear hc6 hf6 k0 k1 k2 k3 hb1 hb2 hb3 hb4 hb5
    go_wp2_with fail
    go_region_held3 (fun w' => w'.cell? ⟨w4.heap.size, 0, none⟩ = some (.int .i64 ch) ∧ w'.cell? ⟨w4.heap.size, 1, none⟩ = some (.slice (some ⟨b4, 0, none⟩) n n) ∧ w'.cell? ⟨w.heap.size, 0, none⟩ = some (.int .i64 ch) ∧ w'.cell? ⟨w.heap.size, 1, none⟩ = some (.slice A n c) ∧ w.heap.size < w'.heap.size ∧ w4.heap.size < w'.heap.size ∧ Below w6.heap.size w6 w')
      ((try refine ⟨?_, ?_, ?_, ?_, ?_, ?_, ?_⟩) <;> (first | go_keep | (go_grown; done) | (go_split_ands; first | exact (hb1.cell (p := ⟨_, _, none⟩) (by assumption)).trans (by assumption) | exact Nat.lt_of_lt_of_le (by assumption) hb1.size | exact bel_tr (by assumption) hb1)))
      (first | (go_at_call 15; refine (toKiln_any _ _ _ _ xs _ (hA6.below (by first | (go_grown; done) | (go_split_ands; assumption)))).mono ?_; rintro e w1 ⟨b6, rfl, hI7, hb1⟩) | (go_at_call 17; refine (eqKiln_any _ _ _ _ _ _ _ xs _ (hI6.below (by first | (go_grown; done) | (go_split_ands; assumption))) hI7).mono ?_; rintro e w1 ⟨rfl, hb1⟩))
    go_split_ands
    rename Below w6.heap.size w6 _ => hb7
    rename World => w7
    have k0 : w7.cell? ⟨w4.heap.size, 0, none⟩ = some (.int .i64 ch) := by assumption
    have k1 : w7.cell? ⟨w4.heap.size, 1, none⟩ = some (.slice (some ⟨b4, 0, none⟩) n n) := by assumption
    have kc0_7 : w7.cell? ⟨w.heap.size, 0, none⟩ = some (.int .i64 ch) := by assumption
    have kc1_7 : w7.cell? ⟨w.heap.size, 1, none⟩ = some (.slice A n c) := by assumption
    have hz7 := hb7.size
    have B7 : Below w.heap.size w w7 := B6.trans (hb7.mono (by omega))
    have C57 : Below w5.heap.size w5 w7 := bel_tr hb6 hb7
    have C47 : Below w4.heap.size w4 w7 := bel_tr C45 C57
    have C37 : Below w3.heap.size w3 w7 := bel_tr C35 C57
    have L7 : w.heap.size < w7.heap.size := by omega
    go_wp2_with fail
    refine (markKiln_any ch b4 n n xs 1 _ (hI4.below C47) ((Fz.mk_ HFZ4.out).of_below (fun b off e => by simp only [Option.some.injEq, Addr.mk.injEq, and_true] at e; omega) C47) (by omega) (by omega) (by omega)).mono ?_; rintro e w8 ⟨rfl, hg8⟩
    have hg8 : w7.grownBy w8 (some b4) := hg8
    have hz8 := hg8.size
    have B8 : Below w.heap.size w w8 := below_grown B7 hg8 (by omega) (fun k hk => by simp only [Option.some.injEq] at hk; omega)
    have L8 : w.heap.size < w8.heap.size := by omega
    have hKs8 := (hS3.below C37).grown hg8 (HN3.out.ne_ge (by omega))
    have hKg8 := (hG5.below C57).grown hg8 (HN5.out.ne_lt (by simp only [World.size_alloc]; omega))
    have hKF8 : Fz w8 Q5 := fun b off e o => by
      have h1 := HN5.out.ne_lt (k := b4) (by simp only [World.size_alloc]; omega) b off e
      have h2 := HN5.out.lt b off e
      exact (World.frozen?_of_block (hg8.block b (by omega) h1)).trans (hF5.of_below HN5.out.lt C57 b off e o)
    have kc0_8 := World.grownBy.cell hg8 kc0_7 (by simp; omega)
    have kc1_8 := World.grownBy.cell hg8 kc1_7 (by simp; omega)
    clear hg8 k0 k1 kc0_7 kc1_7
    go_wp2_with fail
    (refine (eqIntB_any _ _ _ _ _ _ _ _ (hKg8.below (Below.refl _ _)) (hKs8.below (Below.refl _ _))).mono ?_; rintro e w9 ⟨rfl, hb9⟩; obtain ⟨hc9, hf9⟩ := bcell hb9; have hz9 := hb9.size; (try simp only [World.size_alloc] at hz9); (try simp only [World.size_setCell] at hz9); (try simp only [World.size_drew] at hz9); (try have L9 : w.heap.size < w9.heap.size := by omega); have B9 : Below w.heap.size w w9 := bel_tr (by first | (go_grown; done) | (go_split_ands; assumption)) hb9)
    have kc0_9 := (hb9.cell (p := ⟨w.heap.size, 0, none⟩) L8).trans kc0_8
    have kc1_9 := (hb9.cell (p := ⟨w.heap.size, 1, none⟩) L8).trans kc1_8
    clear hc9 hf9
    go_wp2_with fail
    refine (markInt_any _ _ _ _ _ _ (hKg8.below (bel_tr (Below.refl _ _) hb9)) (hKF8.of_below (fun b off e => by have := HN5.out.lt b off e; omega) (bel_tr (Below.refl _ _) hb9)) (by omega) (by omega)).mono ?_; rintro e w10 ⟨rfl, hR10, hMF10, hg10⟩
    have hz10 := hg10.size
    have B10 : Below w.heap.size w w10 := below_grown B9 hg10 (by omega) (HN5.out.row (by simp only [World.size_alloc]; omega))
    have hKs10 := (hKs8.below (bel_tr (Below.refl _ _) hb9)).grown hg10 (HN3.out.ne_row HN5.out (by simp only [World.size_alloc]; omega))
    have kc0_10 := World.grownBy.cell hg10 kc0_9 (fun e => by have h := HN5.out.row (m := w.heap.size + 1) (by simp only [World.size_alloc]; omega) _ e.symm; exact Nat.not_succ_le_self _ h)
    have kc1_10 := World.grownBy.cell hg10 kc1_9 (fun e => by have h := HN5.out.row (m := w.heap.size + 1) (by simp only [World.size_alloc]; omega) _ e.symm; exact Nat.not_succ_le_self _ h)
    have L10 : w.heap.size < w10.heap.size := by omega
    clear hg10 kc0_8 kc1_8 kc0_9 kc1_9
    have hqb : q5 ≤ 1048576 := hG5.bound
    go_wp2_with fail
    refine (heldInt_any _ _ _ _ _ (hR10.below (Below.refl _ _)) (by omega) (by omega)).mono ?_; rintro e w' ⟨rfl, rfl⟩
    go_wp2_with fail
    (refine (toKiln_any _ _ _ _ xs _ (hA.below (by first | (go_grown; done) | (go_split_ands; assumption)))).mono ?_; rintro e w11 ⟨b11, rfl, hI11, hb11⟩; obtain ⟨hc11, hf11⟩ := bcell hb11; have hz11 := hb11.size; (try simp only [World.size_alloc] at hz11); (try simp only [World.size_setCell] at hz11); (try simp only [World.size_drew] at hz11); (try have L11 : w.heap.size < w11.heap.size := by omega); have B11 : Below w.heap.size w w11 := bel_tr (by first | (go_grown; done) | (go_split_ands; assumption)) hb11)
    go_wp2_with fail
    (refine (implChambersIn_any _ _ _ _ xs _ _ _ (hI11.below (by first | (go_grown; done) | (go_split_ands; assumption)))).mono ?_; rintro e w12 ⟨Q12, q12, d12, rfl, hI12, hF12, hN12, hb12⟩; obtain ⟨hc12, hf12⟩ := bcell hb12; have hz12 := hb12.size; (try simp only [World.size_alloc] at hz12); (try simp only [World.size_setCell] at hz12); (try simp only [World.size_drew] at hz12); (try have L12 : w.heap.size < w12.heap.size := by omega); have B12 : Below w.heap.size w w12 := bel_tr (by first | (go_grown; done) | (go_split_ands; assumption)) hb12)
    have HN12 := Lib.hid hN12; clear hN12
    go_wp2_with fail
    (refine (eqIntB_any _ _ _ _ _ _ _ _ (hI12.below (Below.refl _ _)) (hKs10.below (bel_tr (bel_tr (Below.refl _ _) hb11) hb12))).mono ?_; rintro e w13 ⟨rfl, hb13⟩; obtain ⟨hc13, hf13⟩ := bcell hb13; have hz13 := hb13.size; (try simp only [World.size_alloc] at hz13); (try simp only [World.size_setCell] at hz13); (try simp only [World.size_drew] at hz13); (try have L13 : w.heap.size < w13.heap.size := by omega); have B13 : Below w.heap.size w w13 := bel_tr (by first | (go_grown; done) | (go_split_ands; assumption)) hb13)
    go_wp2_with fail
    refine (heldInt_any _ _ _ _ _ (hR10.below (bel_tr (bel_tr (bel_tr (Below.refl _ _) hb11) hb12) hb13)) (by omega) (by omega)).mono ?_; rintro e w' ⟨rfl, rfl⟩
    go_wp2_with fail
    go_ret
    exact ⟨rfl, B13⟩

theorem cells24 : Try.prog.cellsOf 24 = 2 := by kernel_rfl
theorem cells2 : Try.prog.cellsOf 2 = 1 := by kernel_rfl

set_option maxRecDepth 100000 in
theorem lifted (os : Os) (started : os.Started) (H : Type) (enc : TypeId × Value → H) :
    ReturnsInHanded {} Try.checked os 11 .any (Rows.fnExactChambersInSpec.pre6 enc Try.prog Try.f11 Rows.fnExactChambersInRow.domain false) (Rows.fnExactChambersInSpec.post enc Try.prog Try.f11 false true false false) := by
  refine returnsInHanded_of_change (C := Try.checked) own started (by kernel_rfl) Try.func11
    (ChangeSpec.witness6 (enc := enc) (C := Try.checked) false ⟨#[], #[.agg #[.int .i64 0, .slice none 0 0], .int .i64 0, .int .i64 0], []⟩ 8 (by kernel_rfl) (by kernel_rfl) (by kernel_rfl) (by kernel_rfl)) ?_
  intro W base args ds gs before hval0 hW hcnd _
  have hval : ∀ (j : Nat) t v, Try.f11.params[j]? = some t → args[j]? = some v → Value.okWide Try.prog W .any base t v := hval0
  have hW' := hW
  obtain ⟨p, q, hA0, hV, rfl, hfz, hnd⟩ := hW
  have hA : DataW.TrodAll enc Try.prog W 0 (fun _ => true) true Try.f11.params.toList args.toList ds p := hA0
  rw [Try.params11] at hA hval
  obtain ⟨v0, vs0, d0, ds0, p0, q0, hargs, rfl, rfl, h0, r0⟩ := trodAll_cons hA
  obtain ⟨v1, vs1, d1, ds1, p1, q1, rfl, rfl, rfl, h1, r1⟩ := trodAll_cons r0
  obtain ⟨v2, vs2, d2, ds2, p2, q2, rfl, rfl, rfl, h2, r2⟩ := trodAll_cons r1
  obtain ⟨rfl, rfl, rfl⟩ := trodAll_nil r2
  obtain rfl : args = #[v0, v1, v2] := by cases args; simp_all
  obtain ⟨rfl, rfl⟩ := trodVars_none hV
  have t0 := h0
  have lt0 : ∀ x ∈ p0, x.block < W.heap.size := by obtain ⟨m, hm⟩ := t0; exact DataW.trod_lt m _ _ _ hm
  obtain ⟨c0, c1, y0, y1, m, rfl, hd0, hp0, hy0, hy1⟩ := open_agg2 Try.underlying24 (by kernel_rfl) cells24 (hval 0 24 v0 rfl rfl) h0
  obtain ⟨ch, e0, _, wa⟩ := DataW.trod_int Try.underlying2 hy0
  obtain ⟨A, n, c, xs, rfl, hR⟩ := slice_raw Try.underlying22 Try.underlying2 cells2 hy1
  simp at e0
  subst e0
  obtain ⟨cc, rfl, rfl, rfl, w1⟩ := open_int Try.underlying2 (hval 1 2 v1 rfl rfl) h1
  obtain ⟨ss, rfl, rfl, rfl, w2⟩ := open_int Try.underlying2 (hval 2 2 v2 rfl rfl) h2
  clear hA0 hval0
  refine (walk ch A n c xs cc ss W hR).mono fun e W' ⟨he, bel⟩ => ?_
  subst he
  exact ⟨_, rfl, _, _, _, [], _, [], hW', trodAll_mk1 (shut_bool Try.underlying4 _), (trodAll_cons_mk (Below.trod laidOut (by kernel_rfl) (of_decide_eq_true (by kernel_rfl)) t0 bel lt0) (trodAll_cons_mk (shut_int Try.underlying2 w1) (trodAll_cons_mk (shut_int Try.underlying2 w2) trodAll_mk0))), rfl, bel.frame _, fun h => by cases h⟩

theorem over : Rows.fnExactChambersInRow.holds Try.pinned (OpenSpec.ofChange Rows.fnExactChambersInSpec) :=
  OpenClaim.holds_of_wide 11 Try.f11 rfl rfl rfl rfl rfl rfl rfl ⟨rfl, rfl, rfl, rfl, rfl⟩ rfl rfl rfl rfl rfl (by kernel_rfl) Try.func11 (by kernel_rfl)
    (of_decide_eq_true (by kernel_rfl)) (by unfold Func.isWrapper; first | (rw [if_pos (by decide +kernel)]; kernel_rfl) | (rw [if_neg (by decide +kernel)]; exact ⟨rfl, rfl⟩))
    (fun os started H enc _ => lifted os started H enc)

theorem proved : Rows.FnExactChambersInSaid := over
end Go.Proofs.Ytnccooeaeomjfaa.lawChambersIn
