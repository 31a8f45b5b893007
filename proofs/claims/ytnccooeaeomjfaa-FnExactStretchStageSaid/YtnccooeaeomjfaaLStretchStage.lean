/- FnExactStretchStage returns true for every input, and each argument reads afterwards as it read before. No condition. -/
import Derived.Test.YtnccooeaeomjfaaKL3
import Derived.Test.YtnccooeaeomjfaaK12
namespace Go.Proofs.Ytnccooeaeomjfaa.lawStretchStage
open Go.ChangeShapes Go.WideShapes Go.ChangeAt Go.RowKit Go.Joins
open Go.ChangeMaps (open_string shut_string)
set_option linter.unusedVariables false

theorem own : ownKnob Try.prog.godebug = none := by kernel_rfl
theorem laidOut : laidOutB Try.prog = true := by kernel_rfl

set_option maxRecDepth 10000 in
set_option maxHeartbeats 4000000 in
theorem walk (ch : Int) (A : Option Addr) (n c : Nat) (xs : List Int) (tt : Int) (w : World) (hR : Raw w A n xs) :
    Calls Try.prog 7 #[.agg #[.int .i64 ch, .slice A n c], .int .i64 tt] w fun e w' => e = .returned (.bool true) ∧ Below w.heap.size w w' := by
  have hbd := hR.bound
  by_cases hbig : (1048576 : Int) < n
  · have hif : (if (1048576 : Int) < n then (-1 : Int) else 1048576 - n) = -1 := if_pos hbig
    have HIF := Lib.hid hif; clear hif
    go_enter Try.func7, Try.ntmps7
    go_wp2_with (go_at_call 13; refine (szKiln_any _ _ _ _ _ _ hbd (by omega) (by omega)).mono ?_; rw [HIF.out]; rintro e w1 ⟨rfl, hb1⟩; obtain ⟨hc1, hf1⟩ := bcell hb1)
    go_ret
    exact ⟨rfl, bel_tr (by go_grown) hb1⟩
  · have hif : (if (1048576 : Int) < n then (-1 : Int) else 1048576 - n) = 1048576 - n := if_neg hbig
    have HIF := Lib.hid hif; clear hif
    have hA := hR.ints (by omega)
    clear hR
    obtain ⟨N, hN⟩ : ∃ N, stretchN ch xs tt = N := ⟨_, rfl⟩
    obtain ⟨L, hL⟩ : ∃ L, stretchL ch xs tt = L := ⟨_, rfl⟩
    obtain ⟨C, hC⟩ : ∃ C, stretchC ch xs tt = C := ⟨_, rfl⟩
    have KS := Lib.hid (show ∀ (A : Option Addr) (n c : Nat) (w : World), Ints w A n xs → Calls Try.prog 26 #[.agg #[.int .i64 ch, .slice A n c], .int .i64 tt] w (KilnC N L C w) from fun A n c w h => by rw [← hN, ← hL, ← hC]; exact specStretchStage_any ch A n c xs tt w h)
    have KI := Lib.hid (show ∀ (A : Option Addr) (n c : Nat) (w : World), Ints w A n xs → Calls Try.prog 27 #[.agg #[.int .i64 ch, .slice A n c], .int .i64 tt] w (KilnC N L C w) from fun A n c w h => by rw [← hN, ← hL, ← hC]; exact implStretchStage_any ch A n c xs tt w h)
    clear hN hL hC
    go_enter Try.func7, Try.ntmps7
    go_wp2_with (go_at_call 13; refine (szKiln_any _ _ _ _ _ _ hbd (by omega) (by omega)).mono ?_; rw [HIF.out]; rintro e w1 ⟨rfl, hb1⟩; obtain ⟨hc1, hf1⟩ := bcell hb1)
    have KA := Lib.hid ((KBox.new w ch A n c 24).below hb1)
    have hz1 := hb1.size
    simp only [World.size_alloc] at hz1
    have L1 : w.heap.size < w1.heap.size := by omega
    have B1 : Below w.heap.size w w1 := bel_tr (by go_grown) hb1
    clear hc1 hf1 hb1
    obtain ⟨_, a0, a1⟩ := KA.out
    refine (toKiln_any _ _ _ _ xs _ (hA.below B1)).mono ?_; rintro e w2 ⟨b2, rfl, hI2, hb2⟩
    have B2 := bel_tr B1 hb2
    have KA2 := Lib.hid (KA.out.below hb2)
    clear a0 a1 KA
    go_wp2_with fail
    refine (KS.out _ _ _ _ hI2).mono ?_; rintro e w3 ⟨Q3, q3, d3, rfl, hS3, hF3, hN3, hb3⟩
    have B3 := bel_tr B2 hb3
    have A3 : Below w3.heap.size w3 (w3.alloc (.cells #[.int .i64 N, .slice Q3 q3 d3] 27)) := (Below.refl _ _).alloc (Nat.le_refl _) _
    have KA3 := Lib.hid ((KA2.out.below hb3).below A3)
    have KW3 := Lib.hid (KBox.new w3 N Q3 q3 d3 27)
    have HS3 := Lib.hid (hS3.below A3)
    have HN3 := Lib.hid hN3
    have hw3 := B3.size
    clear hI2 hb2 hb3 hS3 hF3 hN3 KA2
    obtain ⟨_, a0, a1⟩ := KA3.out
    go_wp2_with fail
    refine (toKiln_fz _ _ _ _ xs _ (hA.below (bel_tr B3 A3))).mono ?_; rintro e w4 ⟨b4, rfl, hlb4, hlt4, hfz4, hI4, hb4⟩
    have B4 := bel_tr (bel_tr B3 A3) hb4
    have A4 : Below w4.heap.size w4 (w4.alloc (.cells #[.int .i64 ch, .slice (some ⟨b4, 0, none⟩) n n] 27)) := (Below.refl _ _).alloc (Nat.le_refl _) _
    have KA4 := Lib.hid ((KA3.out.below hb4).below A4)
    have KW4 := Lib.hid ((KW3.out.below hb4).below A4)
    have KX4 := Lib.hid (KBox.new w4 ch (some ⟨b4, 0, none⟩) n n 27)
    have HS4 := Lib.hid ((HS3.out.below hb4).below A4)
    have HI4 := Lib.hid (hI4.below A4)
    have HFZ4 := Lib.hid (show Fz (w4.alloc (.cells #[.int .i64 ch, .slice (some ⟨b4, 0, none⟩) n n] 27)) (some ⟨b4, 0, none⟩) from (Fz.mk_ hfz4).of_below (fun b off e => by simp only [Option.some.injEq, Addr.mk.injEq, and_true] at e; omega) A4)
    have hw4 := hb4.size; simp only [World.size_alloc] at hw4 hlb4
    clear a0 a1 KA3 KW3 HS3 hfz4 hI4
    have HN4 := Lib.hid (show b4 < w4.heap.size ∧ w3.heap.size < b4 from ⟨hlt4, by omega⟩)
    obtain ⟨_, x0, x1⟩ := KX4.out
    have hC : (C != C) = false := by simp
    go_wp2_with fail
    refine (KI.out _ _ _ _ HI4.out).mono ?_; rintro e w5 ⟨Q5, q5, d5, rfl, hG5, hF5, hN5, hb5⟩
    have B5 := bel_tr (bel_tr B4 A4) hb5
    have A5 : Below w5.heap.size w5 (w5.alloc (.cells #[.int .i64 N, .slice Q5 q5 d5] 27)) := (Below.refl _ _).alloc (Nat.le_refl _) _
    have BW5 := bel_tr B5 A5
    have HN5 := Lib.hid hN5
    have hw5 := hb5.size; simp only [World.size_alloc] at hw5
    have HF5 := Lib.hid (hF5.of_below hN5.lt A5)
    have HFZ5 := Lib.hid ((HFZ4.out.of_below (fun b off e => by simp only [Option.some.injEq, Addr.mk.injEq, and_true] at e; simp; omega) hb5).of_below (fun b off e => by simp only [Option.some.injEq, Addr.mk.injEq, and_true] at e; omega) A5)
    have HG5 := Lib.hid (hG5.below A5)
    have KA5 := Lib.hid ((KA4.out.below hb5).below A5)
    have KW5 := Lib.hid ((KW4.out.below hb5).below A5)
    have KX5 := Lib.hid ((KX4.out.below hb5).below A5)
    have HS5 := Lib.hid ((HS4.out.below hb5).below A5)
    have HI5 := Lib.hid ((HI4.out.below hb5).below A5)
    have KG5 := Lib.hid (KBox.new w5 N Q5 q5 d5 27)
    clear hG5 hF5 hN5 x0 x1 KA4 KW4 KX4 HS4 HI4 HFZ4 hb5
    obtain ⟨_, g0, g1⟩ := KG5.out
    obtain ⟨_, w0, w1'⟩ := KW5.out
    go_wp2_with fail
    refine (eqKiln_any N Q5 Q3 q5 q3 d5 d3 L _ HG5.out HS5.out).mono ?_; rintro e w6 ⟨rfl, hb6⟩
    have B6 := bel_tr BW5 hb6
    have hw6 := hb6.size; simp only [World.size_alloc] at hw6
    have HF6 := Lib.hid (HF5.out.of_below (fun b off e => by have := HN5.out.lt b off e; simp; omega) hb6)
    have HFZ6 := Lib.hid (HFZ5.out.of_below (fun b off e => by simp only [Option.some.injEq, Addr.mk.injEq, and_true] at e; simp; omega) hb6)
    have HG6 := Lib.hid (HG5.out.below hb6)
    have KA6 := Lib.hid (KA5.out.below hb6)
    have KW6 := Lib.hid (KW5.out.below hb6)
    have KX6 := Lib.hid (KX5.out.below hb6)
    have KG6 := Lib.hid (KG5.out.below hb6)
    have HS6 := Lib.hid (HS5.out.below hb6)
    have HI6 := Lib.hid (HI5.out.below hb6)
    clear g0 g1 w0 w1' hb6 HF5 HFZ5 HG5 KA5 KW5 KX5 KG5 HS5 HI5
    have hA6 := hA.below B6
    have hI6 := HI6.out
    obtain ⟨hx, x0, x1⟩ := KX6.out
    obtain ⟨ha, a0, a1⟩ := KA6.out
    go_wp2_with fail
    go_region_held3 (fun w' => w'.cell? ⟨w4.heap.size, 0, none⟩ = some (.int .i64 ch) ∧ w'.cell? ⟨w4.heap.size, 1, none⟩ = some (.slice (some ⟨b4, 0, none⟩) n n) ∧ w'.cell? ⟨w.heap.size, 0, none⟩ = some (.int .i64 ch) ∧ w'.cell? ⟨w.heap.size, 1, none⟩ = some (.slice A n c) ∧ w.heap.size < w'.heap.size ∧ w4.heap.size < w'.heap.size ∧ Below w6.heap.size w6 w')
      ((try refine ⟨?_, ?_, ?_, ?_, ?_, ?_, ?_⟩) <;> (first | go_keep | (go_grown; done) | (go_split_ands; first | exact (hb1.cell (p := ⟨_, _, none⟩) (by assumption)).trans (by assumption) | exact Nat.lt_of_lt_of_le (by assumption) hb1.size | exact bel_tr (by assumption) hb1)))
      (first | (go_at_call 15; refine (toKiln_any _ _ _ _ xs _ (hA6.below (by first | (go_grown; done) | (go_split_ands; assumption)))).mono ?_; rintro e w1 ⟨b6, rfl, hI7, hb1⟩) | (go_at_call 17; refine (eqKiln_any _ _ _ _ _ _ _ xs _ (hI6.below (by first | (go_grown; done) | (go_split_ands; assumption))) hI7).mono ?_; rintro e w1 ⟨rfl, hb1⟩))
    go_split_ands
    rename Below w6.heap.size w6 _ => hb7
    rename World => w7
    have B7 := bel_tr B6 hb7
    have hw7 := hb7.size
    have HF7 := Lib.hid (HF6.out.of_below (fun b off e => by have := HN5.out.lt b off e; omega) hb7)
    have HFZ7 := Lib.hid (HFZ6.out.of_below (fun b off e => by simp only [Option.some.injEq, Addr.mk.injEq, and_true] at e; omega) hb7)
    have HG7 := Lib.hid (HG6.out.below hb7)
    have KA7 := Lib.hid (KA6.out.below hb7)
    have KW7 := Lib.hid (KW6.out.below hb7)
    have KX7 := Lib.hid (KX6.out.below hb7)
    have KG7 := Lib.hid (KG6.out.below hb7)
    have HS7 := Lib.hid (HS6.out.below hb7)
    have HI7 := Lib.hid (HI6.out.below hb7)
    clear x0 x1 a0 a1 hA6 hI6 hx ha hb7 HF6 HFZ6 HG6 KA6 KW6 KX6 KG6 HS6 HI6
    obtain ⟨_, x0, x1⟩ := KX7.out
    go_wp2_with fail
    refine (markKiln_any ch b4 n n xs 1 _ HI7.out HFZ7.out (by have := HN4.out.1; omega) (by omega) (by omega)).mono ?_; rintro e w8 ⟨rfl, hg8⟩
    obtain ⟨hb41, hb42⟩ := HN4.out
    have hg8 : w7.grownBy w8 (some b4) := hg8
    have hw8 := hg8.size
    have B8 : Below w.heap.size w w8 := below_grown B7 hg8 (by omega) (fun k hk => by simp only [Option.some.injEq] at hk; omega)
    have KA8 := Lib.hid (KA7.out.grown hg8 (fun e => by simp only [Option.some.injEq] at e; omega))
    have KW8 := Lib.hid (KW7.out.grown hg8 (fun e => by simp only [Option.some.injEq] at e; omega))
    have KG8 := Lib.hid (KG7.out.grown hg8 (fun e => by simp only [Option.some.injEq] at e; omega))
    have HS8 := Lib.hid (HS7.out.grown hg8 (HN3.out.ne_ge (by omega)))
    have HG8 := Lib.hid (HG7.out.grown hg8 (HN5.out.ne_lt (by simp only [World.size_alloc]; omega)))
    have HF8 := Lib.hid (show Fz w8 Q5 from fun b off e o => by
      have h1 := HN5.out.ne_lt (k := b4) (by simp only [World.size_alloc]; omega) b off e
      have h2 := HN5.out.lt b off e
      exact (World.frozen?_of_block (hg8.block b (by omega) h1)).trans (HF7.out b off e o))
    clear hg8 x0 x1 KA7 KW7 KX7 KG7 HS7 HI7 HG7 HF7 HFZ7
    obtain ⟨_, g0, g1⟩ := KG8.out
    obtain ⟨_, w0, w1'⟩ := KW8.out
    go_wp2_with fail
    refine (eqKiln_any N Q5 Q3 q5 q3 d5 d3 L _ HG8.out HS8.out).mono ?_; rintro e w9 ⟨rfl, hb9⟩
    have B9 := bel_tr B8 hb9
    have hw9 := hb9.size
    have HF9 := Lib.hid (HF8.out.of_below (fun b off e => by have := HN5.out.lt b off e; omega) hb9)
    have HG9 := Lib.hid (HG8.out.below hb9)
    have KA9 := Lib.hid (KA8.out.below hb9)
    have KW9 := Lib.hid (KW8.out.below hb9)
    have KG9 := Lib.hid (KG8.out.below hb9)
    have HS9 := Lib.hid (HS8.out.below hb9)
    clear g0 g1 w0 w1' hb9 HF8 HG8 KA8 KW8 KG8 HS8
    obtain ⟨_, g0, g1⟩ := KG9.out
    go_wp2_with fail
    refine (markKiln_gen N Q5 q5 d5 L 1 _ HG9.out HF9.out (fun b off e => by have := HN5.out.lt b off e; omega) (by omega) (by omega)).mono ?_; rintro e w10 ⟨rfl, hR10, hM10, hg10⟩
    have hw10 := hg10.size
    have hrow : ∀ k, Q5.map (·.block) = some k → w4.heap.size + 1 ≤ k ∧ k < w5.heap.size := fun k e => by
      refine ⟨HN5.out.row (by simp) k e, ?_⟩
      cases hq : Q5 with
      | none => rw [hq] at e; cases e
      | some a =>
        rw [hq] at e
        simp only [Option.map_some, Option.some.injEq] at e
        have := (HN5.out a hq).2
        omega
    have B10 : Below w.heap.size w w10 := below_grown B9 hg10 (by omega) (fun k e => by have := hrow k e; omega)
    have KA10 := Lib.hid (KA9.out.grown hg10 (fun e => by have := hrow _ e; omega))
    have KW10 := Lib.hid (KW9.out.grown hg10 (fun e => by have := hrow _ e; omega))
    have KG10 := Lib.hid (KG9.out.grown hg10 (fun e => by have := hrow _ e; omega))
    have HS10 := Lib.hid (HS9.out.grown hg10 (HN3.out.ne_row HN5.out (by simp only [World.size_alloc]; omega)))
    have HR10 := Lib.hid hR10
    have hqb : q5 ≤ 1048576 := HG9.out.bound
    clear hR10 hM10 hg10 hrow g0 g1 KA9 KW9 KG9 HS9 HG9 HF9
    obtain ⟨_, g0, g1⟩ := KG10.out
    go_wp2_with fail
    refine (heldKiln_any N Q5 q5 d5 1 _ HR10.out (by omega) (by omega)).mono ?_; rintro e w11 ⟨rfl, hb11⟩
    have B11 := bel_tr B10 hb11
    have hw11 := hb11.size
    have KA11 := Lib.hid (KA10.out.below hb11)
    have KW11 := Lib.hid (KW10.out.below hb11)
    have KG11 := Lib.hid (KG10.out.below hb11)
    have HS11 := Lib.hid (HS10.out.below hb11)
    have HR11 := Lib.hid (HR10.out.below hb11)
    clear g0 g1 hb11 KA10 KW10 KG10 HS10 HR10
    obtain ⟨_, a0, a1⟩ := KA11.out
    go_wp2_with fail
    refine (toKiln_any _ _ _ _ xs _ (hA.below B11)).mono ?_; rintro e w12 ⟨b12, rfl, hI12, hb12⟩
    have B12 := bel_tr B11 hb12
    have KW12 := Lib.hid (KW11.out.below hb12)
    have KG12 := Lib.hid (KG11.out.below hb12)
    have HS12 := Lib.hid (HS11.out.below hb12)
    have HR12 := Lib.hid (HR11.out.below hb12)
    clear a0 a1 hb12 KA11 KW11 KG11 HS11 HR11
    go_wp2_with fail
    refine (KI.out _ _ _ _ hI12).mono ?_; rintro e w13 ⟨Q13, q13, d13, rfl, hG13, hF13, hN13, hb13⟩
    have B13 := bel_tr B12 hb13
    have A13 : Below w13.heap.size w13 (w13.alloc (.cells #[.int .i64 N, .slice Q13 q13 d13] 27)) := (Below.refl _ _).alloc (Nat.le_refl _) _
    have BW13 := bel_tr B13 A13
    have HG13 := Lib.hid (hG13.below A13)
    have KW13 := Lib.hid ((KW12.out.below hb13).below A13)
    have KG13 := Lib.hid ((KG12.out.below hb13).below A13)
    have HS13 := Lib.hid ((HS12.out.below hb13).below A13)
    have HR13 := Lib.hid ((HR12.out.below hb13).below A13)
    have KH13 := Lib.hid (KBox.new w13 N Q13 q13 d13 27)
    clear hG13 hF13 hN13 hb13 hI12 KW12 KG12 HS12 HR12
    obtain ⟨_, h0, h1⟩ := KH13.out
    obtain ⟨_, w0, w1'⟩ := KW13.out
    go_wp2_with fail
    refine (eqKiln_any N Q13 Q3 q13 q3 d13 d3 L _ HG13.out HS13.out).mono ?_; rintro e w14 ⟨rfl, hb14⟩
    have B14 := bel_tr BW13 hb14
    have KG14 := Lib.hid (KG13.out.below hb14)
    have HR14 := Lib.hid (HR13.out.below hb14)
    clear h0 h1 w0 w1' hb14 KW13 KG13 HS13 HR13 KH13 HG13
    obtain ⟨_, g0, g1⟩ := KG14.out
    go_wp2_with fail
    refine (heldKiln_any N Q5 q5 d5 1 _ HR14.out (by omega) (by omega)).mono ?_; rintro e w15 ⟨rfl, hb15⟩
    have B15 := bel_tr B14 hb15
    clear g0 g1 hb15 KG14 HR14
    go_wp2_with fail
    go_ret
    exact ⟨rfl, B15⟩

theorem cells24 : Try.prog.cellsOf 24 = 2 := by kernel_rfl
theorem cells2 : Try.prog.cellsOf 2 = 1 := by kernel_rfl

set_option maxRecDepth 100000 in
theorem lifted (os : Os) (started : os.Started) (H : Type) (enc : TypeId × Value → H) :
    ReturnsInHanded {} Try.checked os 7 .any (Rows.fnExactStretchStageSpec.pre6 enc Try.prog Try.f7 Rows.fnExactStretchStageRow.domain false) (Rows.fnExactStretchStageSpec.post enc Try.prog Try.f7 false true false false) := by
  refine returnsInHanded_of_change (C := Try.checked) own started (by kernel_rfl) Try.func7
    (ChangeSpec.witness6 (enc := enc) (C := Try.checked) false ⟨#[], #[.agg #[.int .i64 0, .slice none 0 0], .int .i64 0], []⟩ 8 (by kernel_rfl) (by kernel_rfl) (by kernel_rfl) (by kernel_rfl)) ?_
  intro W base args ds gs before hval0 hW hcnd _
  have hval : ∀ (j : Nat) t v, Try.f7.params[j]? = some t → args[j]? = some v → Value.okWide Try.prog W .any base t v := hval0
  have hW' := hW
  obtain ⟨p, q, hA0, hV, rfl, hfz, hnd⟩ := hW
  have hA : DataW.TrodAll enc Try.prog W 0 (fun _ => true) true Try.f7.params.toList args.toList ds p := hA0
  rw [Try.params7] at hA hval
  obtain ⟨v0, vs0, d0, ds0, p0, q0, hargs, rfl, rfl, h0, r0⟩ := trodAll_cons hA
  obtain ⟨v1, vs1, d1, ds1, p1, q1, rfl, rfl, rfl, h1, r1⟩ := trodAll_cons r0
  obtain ⟨rfl, rfl, rfl⟩ := trodAll_nil r1
  obtain rfl : args = #[v0, v1] := by cases args; simp_all
  obtain ⟨rfl, rfl⟩ := trodVars_none hV
  have t0 := h0
  have lt0 : ∀ x ∈ p0, x.block < W.heap.size := by obtain ⟨m, hm⟩ := t0; exact DataW.trod_lt m _ _ _ hm
  obtain ⟨c0, c1, y0, y1, m, rfl, hd0, hp0, hy0, hy1⟩ := open_agg2 Try.underlying24 (by kernel_rfl) cells24 (hval 0 24 v0 rfl rfl) h0
  obtain ⟨ch, e0, _, wa⟩ := DataW.trod_int Try.underlying2 hy0
  obtain ⟨A, n, c, xs, rfl, hR⟩ := slice_raw Try.underlying22 Try.underlying2 cells2 hy1
  simp at e0
  subst e0
  obtain ⟨cc, rfl, rfl, rfl, w1⟩ := open_int Try.underlying2 (hval 1 2 v1 rfl rfl) h1
  clear hA0 hval0
  refine (walk ch A n c xs cc W hR).mono fun e W' ⟨he, bel⟩ => ?_
  subst he
  exact ⟨_, rfl, _, _, _, [], _, [], hW', trodAll_mk1 (shut_bool Try.underlying4 _), (trodAll_cons_mk (Below.trod laidOut (by kernel_rfl) (of_decide_eq_true (by kernel_rfl)) t0 bel lt0) (trodAll_cons_mk (shut_int Try.underlying2 w1) trodAll_mk0)), rfl, bel.frame _, fun h => by cases h⟩

theorem over : Rows.fnExactStretchStageRow.holds Try.pinned (OpenSpec.ofChange Rows.fnExactStretchStageSpec) :=
  OpenClaim.holds_of_wide 7 Try.f7 rfl rfl rfl rfl rfl rfl rfl ⟨rfl, rfl, rfl, rfl, rfl⟩ rfl rfl rfl rfl rfl (by kernel_rfl) Try.func7 (by kernel_rfl)
    (of_decide_eq_true (by kernel_rfl)) (by unfold Func.isWrapper; first | (rw [if_pos (by decide +kernel)]; kernel_rfl) | (rw [if_neg (by decide +kernel)]; exact ⟨rfl, rfl⟩))
    (fun os started H enc _ => lifted os started H enc)

theorem proved : Rows.FnExactStretchStageSaid := over
end Go.Proofs.Ytnccooeaeomjfaa.lawStretchStage
