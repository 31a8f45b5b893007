/- FnFaultTests returns true for every input, and each argument reads afterwards as it read before; the listed tables hold what the program's text lays (tied). No condition. -/
import Derived.Test.YtmapjepdcbpalaaGreatDoorZ1
import Derived.Test.YtmapjepdcbpalaaGreatDoorBD
import Derived.Test.YtmapjepdcbpalaaGreatDoorBE2
import Derived.Test.YtmapjepdcbpalaaGreatDoorTie
import Derived.Test.YtmapjepdcbpalaaGreatDoorCards
import Derived.Stop.Joined
import Derived.SevenTiedAt
namespace Go.Proofs.YtmapjepdcbpalaaGreatDoor.lawFnFaultTests
open Go.ChangeShapes Go.WideShapes Go.ChangeAt Go.WideMaps Go.WideElems Go.RowKit Go.Joins
set_option linter.unusedVariables false

theorem own : ownKnob Tryz.prog.godebug = none := by kernel_rfl
theorem laidOut : laidOutB Tryz.prog = true := by kernel_rfl

theorem door_met (os : Os) (args : Array Value) : laidMetH Tryz.prog Rows.fnFaultTestsRow.laid ((World.doorLaid Tryz.prog 400 os).forCall (fun _ _ => 0) ⟨#[], args, []⟩).memory :=
  laidMetH_of_parts3 (fuel := 8) (laidMet_of_run' 8 (by kernel_rfl) (by kernel_rfl)) (by kernel_rfl) (by kernel_rfl)
theorem causeS_size {c : Cause} (h : causeB c = true) : (causeS c).size ≤ 1000 := by
  obtain ⟨_, h1, h2⟩ := causeB_is h
  have h3 := decS_size c.Number (by omega) (by omega)
  have h4 : (wordS c.Kind).size ≤ 10 := by
    unfold wordS; split
    · decide
    · split <;> decide
  rw [causeS, if_pos h, ByteArray.size_append, ByteArray.size_append]
  show (wordS c.Kind).size + 1 + (decS c.Number).size ≤ 1000
  omega
theorem bt_cases {xs ts : List Batch} (hx : batchesOk xs = true) (ht : batchesOk ts = true) : (btC xs ts = 3 ∧ (ts = [] ∨ codeB xs = 3)) ∨ (btC xs ts = 0 ∧ ts ≠ [] ∧ codeB xs = 0) := by
  rw [btC, if_pos hx, if_pos ht]
  by_cases h : ts = []
  · left; exact ⟨by rw [if_pos h], .inl h⟩
  · rw [if_neg h]
    rcases codeB_cases hx with ⟨h1, h2⟩ | ⟨h1, h2⟩
    · right; exact ⟨by rw [if_pos h2], h, h1⟩
    · left; exact ⟨by rw [if_neg h2], .inr h1⟩

set_option maxRecDepth 100000 in
set_option maxHeartbeats 8000000 in
theorem walk (A0 : Option Addr) (n0 c0 : Nat) (A1 : Option Addr) (n1 c1 : Nat) (w : World) (hR0 : BysRaw w A0 n0) (hR1 : BysRaw w A1 n1) (hE : Env w) :
    Calls Tryz.prog 3 #[.slice A0 n0 c0, .slice A1 n1 c1] w fun e w' => e = .returned (.bool true) ∧ Below w.heap.size w w' := by
  have hbd0 := hR0.1
  have hbd1 := hR1.1
  have HE := Lib.hid hE
  clear hE
  by_cases hbig : (3000 : Int) < n0 ∨ (3000 : Int) < n1
  · go_enter Tryz.func3, Tryz.ntmps3
    go_wp2_with fail
    refine (long_yes _ _ _ _ _ _ _ hbd0 hbd1 hbig).mono ?_; rintro e w' ⟨rfl, rfl⟩
    go_wp2_with fail
    go_ret
    exact ⟨rfl, by go_grown⟩
  · have hs0 : ¬ (3000 : Int) < n0 := fun h => hbig (.inl h)
    have hs1 : ¬ (3000 : Int) < n1 := fun h => hbig (.inr h)
    have HB0 := Lib.hid (hR0.bys (by omega))
    have HB1 := Lib.hid (hR1.bys (by omega))
    clear hbig hR0 hR1
    go_enter Tryz.func3, Tryz.ntmps3
    go_wp2_with fail
    refine (long_no _ _ _ _ _ _ _ (by omega) (by omega)).mono ?_; rintro e w' ⟨rfl, rfl⟩
    go_wp2_with fail
    refine (a2Batches_any A0 n0 c0 _ HB0.out).mono ?_; rintro e w1 ⟨A2, n2, c2, xs, rfl, hX, hn2, hsm, B1⟩
    have HOK := Lib.hid (small_batches hsm (by rw [hX.len]; omega))
    have HXL := Lib.hid hX.len
    have HX := Lib.hid hX
    clear hX hsm
    go_wp2_with fail
    refine (a2Batches_any A1 n1 c1 _ (HB1.out.below B1)).mono ?_; rintro e w2 ⟨A3, n3, c3, ts, rfl, hY, hn3, hsm, hb2⟩
    have HTK := Lib.hid (small_batches hsm (by rw [hY.len]; omega))
    have HTS := Lib.hid hsm
    have HYL := Lib.hid hY.len
    have HY := Lib.hid hY
    have B2 : Below w.heap.size w w2 := bel_tr B1 hb2
    have HX2 := Lib.hid (HX.out.below hb2)
    clear hY hsm hb2
    have hcon := implCausesIn_any A2 n2 c2 xs _ HX2.out
    rw [show ciC xs = 0 by rw [ciC, if_pos HOK.out], show ciL xs = inL xs by rw [ciL, if_pos HOK.out]] at hcon
    have HIN := Lib.hid (fun c (hc : c ∈ inL xs) => inL_ok hc)
    have HPO := Lib.hid (fun c (hc : c ∈ inL xs) => hasT_pos hc)
    have HBW := Lib.hid (fun c => implBatchesWith_any A2 n2 c2 xs c)
    have HSUM := Lib.hid (sum_three (xs := xs) (okB_all HOK.out).1 xs.length (Nat.le_refl _))
    have HLE := Lib.hid (fun l => sumF_le (xs := xs) xs.length l)
    have HINL := Lib.hid (inL_len xs)
    obtain ⟨al, hal⟩ : ∃ al, inL xs = al := ⟨_, rfl⟩
    rw [hal] at hcon HIN HPO HSUM HINL
    clear hal
    go_wp2_with fail
    refine hcon.mono ?_; rintro e w3 ⟨A4, n4, c4, rfl, hS4, _, _, hb3⟩
    have B3 : Below w.heap.size w w3 := bel_tr B2 hb3
    have HA := Lib.hid hS4
    have HAL := Lib.hid hS4.len
    have hn4 := hS4.bound
    have HX3 := Lib.hid (HX2.out.below hb3)
    have HY3 := Lib.hid (HY.out.below hb3)
    have HE3 := Lib.hid (HE.out.below B3)
    have h60 : n4 ≤ 60 := by rw [← HAL.out]; exact HINL.out
    have hz3 := B3.size
    clear hS4 hb3 hcon
    go_wp2_with fail
    go_loopw [9, 10] (fun s t wr => ∃ i : Nat, i ≤ n4 ∧ t = .int .i64 i ∧ s = .int .i64 (sumF (hasT xs xs.length) (al.take i) : Nat) ∧ Below w3.heap.size w3 wr) (fun _ t _ => n4 - (intOf t).toNat)
    case atStart => exact ⟨0, Nat.zero_le _, rfl, rfl, Below.refl _ _⟩
    case round =>
      obtain ⟨i, hi, rfl, rfl, hB⟩ := hrel
      have HBl := Lib.hid hB
      have hzr := hB.size
      clear hB
      obtain ⟨wo, rfl⟩ : ∃ wo : World, wo = wr := ⟨_, rfl⟩
      obtain ⟨sv, hsv⟩ : ∃ sv, sumF (hasT xs xs.length) (al.take i) = sv := ⟨_, rfl⟩
      have HSV := Lib.hid hsv
      have hsb : sv ≤ 100000 := by
        have h1 := HLE.out (al.take i)
        rw [hsv] at h1
        have h2 : (al.take i).length ≤ 60 := by rw [List.length_take]; have := HINL.out; omega
        have h3 : (al.take i).length * xs.length ≤ 60 * 11 := Nat.mul_le_mul h2 (by rw [HXL.out]; exact hn2)
        omega
      rw [hsv]
      clear hsv
      by_cases hlt : i < n4
      · obtain ⟨b, off, rfl, hb, hc⟩ := (HA.out.below HBl.out).cell (by omega)
        obtain ⟨q0, q1⟩ := hc i hlt
        clear hc
        have hmem : nt al i ∈ al := nt_mem (by rw [HAL.out]; exact hlt)
        have hcB := HIN.out _ hmem
        have HCB := Lib.hid hcB
        have HST := Lib.hid (sumF_take (f := hasT xs xs.length) (l := al) (i := i) (by rw [HAL.out]; exact hlt))
        obtain ⟨hb1, hb2⟩ := bwC_zero HOK.out hcB
        have hbl := bw_len HOK.out hcB
        have hpo := HPO.out _ hmem
        have hcon := fun W hW => HBW.out (nt al i) W hW
        rw [hb1] at hcon
        obtain ⟨L1, hL1⟩ : ∃ L1, bwL xs (nt al i) = L1 := ⟨_, rfl⟩
        have HRS := Lib.hid (show RisesAt L1 n2 by rw [← hL1, hb2, HXL.out]; exact idxL_rises _ _)
        rw [hL1] at hcon hbl
        have HBLN := Lib.hid hbl
        have hrv := readV_some (c := nt al i) (l := (causeS (nt al i)).data.toList) ⟨hcB, rfl⟩
        have hct := fun W hT hN => implCauseText_any (nt al i) W hT hN
        have hrc := fun W hW => implReadCause_any (causeS (nt al i)) W (Nat.le_trans (causeS_size hcB) (by decide)) hW
        rw [hrv] at hrc
        obtain ⟨cs, hcs⟩ : ∃ cs, causeS (nt al i) = cs := ⟨_, rfl⟩
        rw [hcs] at hct hrc
        have HCT := Lib.hid hct; have HRC := Lib.hid hrc; have HCON := Lib.hid hcon
        have hpo2 : 0 < L1.length := by rw [hbl]; exact hpo
        clear hmem hcB hb1 hb2 hbl hpo hcon hL1 hrv hct hrc hcs
        go_wp2_with fail
        refine (HCON.out _ (HX3.out.below HBl.out)).mono ?_; rintro e w4 ⟨Q, q, dq, rfl, hI, _, _, hb4⟩
        obtain ⟨hc4, _⟩ := bcell hb4
        have hz4 := hb4.size
        have e0 := (hc4 _ (off + i * 2) hb).trans q0
        have e1 := (hc4 _ (off + i * 2 + 1) hb).trans q1
        have hbl4 : b < w4.heap.size := by omega
        have T4 : Below w3.heap.size w3 w4 := HBl.out.trans (hb4.mono (by omega))
        have hq : 0 < q := by rw [← hI.len]; exact hpo2
        have hq2 : q ≤ 1000 := by
          have h1 : hasT xs xs.length (nt al i) ≤ xs.length := cntN_le _ _
          have h2 := HBLN.out
          have h3 := hI.len
          have h4 := HXL.out
          omega
        have HQL := Lib.hid hI.len
        have HI := Lib.hid hI
        clear hc4 hI hpo2
        go_wp2_with fail
        refine (HCT.out _ (HE3.out.tab.below T4) (HE3.out.names.below T4)).mono ?_; rintro e w5 ⟨rfl, hb5⟩
        have T5 : Below w3.heap.size w3 w5 := bel_tr T4 hb5
        go_wp2_with fail
        refine (HRC.out _ (HE3.out.below T5)).mono ?_; rintro e w6 ⟨rfl, hb6⟩
        have T46 : Below w4.heap.size w4 w6 := bel_tr hb5 hb6
        have T6 : Below w3.heap.size w3 w6 := bel_tr T4 T46
        obtain ⟨hc6, _⟩ := bcell T46
        have hz6 := T46.size
        have r0 := (hc6 _ (off + i * 2) hbl4).trans e0
        have r1 := (hc6 _ (off + i * 2 + 1) hbl4).trans e1
        have hbl6 : b < w6.heap.size := by omega
        have HI6 := Lib.hid (HI.out.below T46)
        clear hc6 q0 q1 e0 e1 hb4 hb5 hb6
        have s0 := alloc_atS r0 hbl6 (.cells #[.int .i64 (nt al i).Kind, .int .i64 (nt al i).Number] 33)
        have s1 := alloc_atS r1 hbl6 (.cells #[.int .i64 (nt al i).Kind, .int .i64 (nt al i).Number] 33)
        have hb2' : b ≤ w6.heap.size := by omega
        have hb3' : b < w6.heap.size + 1 := by omega
        have hq1 : ((q : Int) == 0) = false := by rw [beq_eq_false_iff_ne]; omega
        have hbn : b ≠ w6.heap.size := by omega
        go_wp2_with fail
        go_region_held3 (fun w' => w'.cell? ⟨w6.heap.size, 0, none⟩ = some (.int .i64 (nt al i).Kind) ∧ w'.cell? ⟨w6.heap.size, 1, none⟩ = some (.int .i64 (nt al i).Number) ∧ w'.cell? ⟨b, off + i * 2, none⟩ = some (.int .i64 (nt al i).Kind) ∧ w'.cell? ⟨b, off + i * 2 + 1, none⟩ = some (.int .i64 (nt al i).Number) ∧ b < w'.heap.size ∧ w6.heap.size < w'.heap.size ∧ Below w6.heap.size w6 w')
          ((try refine ⟨?_, ?_, ?_, ?_, ?_, ?_, ?_⟩) <;> (first | go_keep | (go_grown; done) | (go_split_ands; first | exact (hb1.cell (p := ⟨_, _, none⟩) (by assumption)).trans (by assumption) | exact Nat.lt_of_lt_of_le (by assumption) hb1.size | exact bel_tr (by assumption) hb1) | (simp only [World.size_drew, World.size_alloc]; omega) | (go_split_ands; simp only [World.size_drew, World.size_alloc]; omega) | (go_split_ands; exact Nat.lt_trans (by assumption) (by simp))))
          ((go_at_call 10; refine (a2Rises_any _ _ _ L1 n2 _ (HI6.out.below (by first | (go_split_ands; assumption) | (go_grown; done))) HRS.out (by omega)).mono ?_; rintro e w7 ⟨rfl, hb1⟩))
        all_goals
          go_wp2_with fail
          go_roundw
          case rel => exact ⟨i + 1, by omega, by go_num, by rw [HST.out, HSV.out, ← HBLN.out, HQL.out]; go_num, by go_split_ands; exact bel_tr T6 (by assumption)⟩
          case measure => simp [intOf]; omega
      · obtain rfl : i = n4 := by omega
        have hsum : (sv : Int) = 3 * (n2 : Int) := by
          have h1 := HSUM.out
          have h2 := HSV.out
          rw [List.take_of_length_le (by rw [HAL.out]; exact Nat.le_refl _)] at h2
          rw [h2, HXL.out] at h1
          omega
        have hsum2 : ((sv : Int) != 3 * (n2 : Int)) = false := by rw [hsum]; simp
        have HSS := Lib.hid hsum
        clear hsum
        have HXo := Lib.hid (HX3.out.below HBl.out)
        have HYo := Lib.hid (HY3.out.below HBl.out)
        have Bo : Below w.heap.size w wo := bel_tr B3 HBl.out
        have hbt := implBestTest_any A2 n2 c2 xs A3 n3 c3 ts wo HXo.out HYo.out
        have hpc := fun W hW => specPossibleCauses_any A2 n2 c2 xs W hW
        unfold BtC at hbt
        rcases bt_cases HOK.out HTK.out with ⟨h3, hor⟩ | ⟨h0, hne, hcz⟩
        · rw [h3] at hbt
          obtain ⟨bv, hbv⟩ : ∃ bv, btV xs ts = bv := ⟨_, rfl⟩
          rw [hbv] at hbt
          obtain ⟨z, hz⟩ : ∃ z, codeB xs = z := ⟨_, rfl⟩
          rw [hz] at hpc
          have hor2 : n3 = 0 ∨ (0 < n3 ∧ z = 3) := by
            rcases Nat.eq_zero_or_pos n3 with h | h
            · exact .inl h
            · right
              refine ⟨h, ?_⟩
              rcases hor with h5 | h5
              · rw [← HYL.out, h5] at h; exact absurd h (by simp)
              · rw [← hz]; exact h5
          clear h3 hbv hz hor
          go_wp2_with fail
          refine hbt.mono ?_; rintro e w8 ⟨rfl, hb8⟩
          go_wp2_with fail
          refine (hpc _ (HXo.out.below hb8)).mono ?_; rintro e w9 ⟨A9, n9, c9, rfl, _, _, _, hb9⟩
          have B9 : Below w.heap.size w w9 := bel_tr (bel_tr Bo hb8) hb9
          clear hpc
          rcases hor2 with rfl | ⟨h5, rfl⟩
          · go_wp2_with fail
            go_ret
            exact ⟨rfl, B9⟩
          · have h6 : ((n3 : Int) == 0) = false := by rw [beq_eq_false_iff_ne]; omega
            go_wp2_with fail
            go_ret
            exact ⟨rfl, B9⟩
        · have hbv : btV xs ts = (minAt (worstN ts (posL xs)) ts.length : Nat) := by rw [btV, if_pos h0]
          rw [h0, hbv] at hbt
          rw [hcz, show pcL xs = posL xs by rw [pcL, if_pos hcz]] at hpc
          have hn3p : 0 < n3 := by
            rw [← HYL.out]
            rcases Nat.eq_zero_or_pos ts.length with h | h
            · exact absurd (List.length_eq_zero_iff.1 h) hne
            · exact h
          have HPB := Lib.hid (fun c (hc : c ∈ posL xs) => inL_ok (List.mem_filter.1 hc).1)
          obtain ⟨pl, hpl⟩ : ∃ pl, posL xs = pl := ⟨_, rfl⟩
          rw [hpl] at hbt hpc HPB
          rw [HYL.out] at hbt
          have hml := minAt_lt (f := worstN ts pl) hn3p
          have HMIN := Lib.hid (fun i (hi : i < n3) => minAt_le (f := worstN ts pl) hi)
          obtain ⟨k, hk⟩ : ∃ k, minAt (worstN ts pl) n3 = k := ⟨_, rfl⟩
          rw [hk] at hbt hml HMIN
          clear h0 hbv hcz hne hpl hk
          have hk1 : ¬ (n3 : Int) ≤ (k : Int) := by omega
          go_wp2_with fail
          refine hbt.mono ?_; rintro e w8 ⟨rfl, hb8⟩
          go_wp2_with fail
          refine (hpc _ (HXo.out.below hb8)).mono ?_; rintro e w9 ⟨A9, n9, c9, rfl, hP9, _, _, hb9⟩
          have T9 : Below wo.heap.size wo w9 := bel_tr hb8 hb9
          have B9 : Below w.heap.size w w9 := bel_tr Bo T9
          have HP9 := Lib.hid hP9
          have HPL := Lib.hid hP9.len
          have HY9 := Lib.hid (HYo.out.below T9)
          have hz9 := B9.size
          obtain ⟨g, og, rfl, hg, hcg⟩ := HY9.out.cell (by omega)
          obtain ⟨m0, m1, m2, m3⟩ := hcg k hml
          have HOKK := Lib.hid (small_ok (HTS.out (nt ts k) (nt_mem (by rw [HYL.out]; exact hml))))
          obtain ⟨W0, hW0⟩ : ∃ W0 : Nat, max (hasN pl (nt ts k) n9) (n9 - hasN pl (nt ts k) n9) = W0 := ⟨_, rfl⟩
          have hwo := fun W hW => a2Worst_any (nt ts k) A9 n9 c9 pl W hW HOKK.out HPB.out
          rw [hW0] at hwo
          have HW0 := Lib.hid (show worstN ts pl k = W0 by rw [worstN, HPL.out]; exact hW0)
          clear hpc hP9 hcg hW0 hb8 hb9
          go_wp2_with fail
          refine (hwo _ HP9.out).mono ?_; rintro e w10 ⟨rfl, hb10⟩
          have B10 : Below w.heap.size w w10 := bel_tr B9 hb10
          have hz10 := B10.size
          clear hwo m0 m1 m2 m3
          go_wp2_with fail
          go_loopw [20] (fun t wr => ∃ i : Nat, i ≤ n3 ∧ t = .int .i64 i ∧ Below w9.heap.size w9 wr) (fun t _ => n3 - (intOf t).toNat)
          case atStart => exact ⟨0, Nat.zero_le _, rfl, hb10⟩
          case round =>
            obtain ⟨i, hi, rfl, hB⟩ := hrel
            have HBf := Lib.hid hB
            clear hB
            obtain ⟨wf, rfl⟩ : ∃ wo : World, wo = wr := ⟨_, rfl⟩
            by_cases hit : i < n3
            · obtain ⟨g', og', e', hg', hcg⟩ := (HY9.out.below HBf.out).cell (by omega)
              simp only [Option.some.injEq, Addr.mk.injEq, and_true] at e'
              obtain ⟨rfl, rfl⟩ := e'
              obtain ⟨m0, m1, m2, m3⟩ := hcg i hit
              have HOKI := Lib.hid (small_ok (HTS.out (nt ts i) (nt_mem (by rw [HYL.out]; exact hit))))
              obtain ⟨W1, hW1⟩ : ∃ W1 : Nat, max (hasN pl (nt ts i) n9) (n9 - hasN pl (nt ts i) n9) = W1 := ⟨_, rfl⟩
              have hwo := fun W hW => a2Worst_any (nt ts i) A9 n9 c9 pl W hW HOKI.out HPB.out
              rw [hW1] at hwo
              have hle : W0 ≤ W1 := by
                have h1 := HMIN.out i hit
                rw [HW0.out, worstN, HPL.out, hW1] at h1; exact h1
              have hle2 : ¬ (W1 : Int) < (W0 : Int) := by omega
              clear hcg hW1
              go_wp2_with fail
              refine (hwo _ (HP9.out.below HBf.out)).mono ?_; rintro e w11 ⟨rfl, hb11⟩
              go_wp2_with fail
              go_roundw
              case rel => exact ⟨i + 1, by omega, by go_num, bel_tr HBf.out hb11⟩
              case measure => simp [intOf]; omega
            · obtain rfl : i = n3 := by omega
              go_wp2_with fail
              go_ret
              exact ⟨rfl, bel_tr B9 HBf.out⟩

set_option maxRecDepth 100000 in
theorem lifted (os : Os) (started : os.Started) (H : Type) (enc : TypeId × Value → H) :
    ReturnsInHanded {} Tryz.checked os 3 .any (fun w args => (Rows.fnFaultTestsSpec.pre enc Tryz.prog Tryz.f3 [] false w args ∧ laidMetH Tryz.prog Rows.fnFaultTestsRow.laid w) ∧ sizedMet enc Tryz.prog Tryz.f3 (OpenSpec.ofChange Rows.fnFaultTestsSpec) false w args)
      (Rows.fnFaultTestsSpec.post enc Tryz.prog Tryz.f3 false true false false) := by
  refine handed_shaped (C := Tryz.checked) (X := fun w _ => laidMetH Tryz.prog Rows.fnFaultTestsRow.laid w) (fun _ _ _ hh h => h.of_heap hh) own started (by kernel_rfl) Tryz.func3
    (ChangeSpec.witness_shaped (enc := enc) (C := Tryz.checked) (os := os) (X := fun w _ => laidMetH Tryz.prog Rows.fnFaultTestsRow.laid w) false (World.doorLaid Tryz.prog 400 os) #[.slice none 0 0, .slice none 0 0] 8 rfl (World.shaped_of_RefB (by kernel_rfl) (by kernel_rfl)) (by kernel_rfl) (by kernel_rfl) (by kernel_rfl) (door_met os _)) ?_
  intro W base args ds gs before hval0 hW hL hSh
  have hval : ∀ (j : Nat) t v, Tryz.f3.params[j]? = some t → args[j]? = some v → Value.okWide Tryz.prog W .any base t v := hval0
  have hW' := hW
  obtain ⟨p, q, hA0, hV, rfl, hfz, hnd⟩ := hW
  have hA : DataW.TrodAll enc Tryz.prog W 0 (fun _ => true) true Tryz.f3.params.toList args.toList ds p := hA0
  rw [Tryz.params3] at hA hval
  obtain ⟨v0, vs0, d0, ds0, p0, q0, hargs, rfl, rfl, h0, r0⟩ := trodAll_cons hA
  obtain ⟨v1, vs1, d1, ds1, p1, q1, rfl, rfl, rfl, h1, r1⟩ := trodAll_cons r0
  obtain ⟨rfl, rfl, rfl⟩ := trodAll_nil r1
  obtain rfl : args = #[v0, v1] := by cases args; simp_all
  obtain ⟨gv, hgs⟩ : ∃ gv, gs = [gv] := by obtain ⟨g, t, cs, fuel, d, p', rfl, _⟩ := trodVars_one hV; exact ⟨d, rfl⟩
  have t0 := h0
  have lt0 : ∀ x ∈ p0, x.block < W.heap.size := by obtain ⟨m, hm⟩ := t0; exact DataW.trod_lt m _ _ _ hm
  obtain ⟨A0, n0, c0, rfl⟩ := okWide_slice Tryz.underlying22 (hval 0 22 v0 rfl rfl)
  have hR0 : BysRaw W A0 n0 := param_bys Tryz.underlying22 Tryz.underlying5 (by kernel_rfl) h0
  have t1 := h1
  have lt1 : ∀ x ∈ p1, x.block < W.heap.size := by obtain ⟨m, hm⟩ := t1; exact DataW.trod_lt m _ _ _ hm
  obtain ⟨A1, n1, c1, rfl⟩ := okWide_slice Tryz.underlying22 (hval 1 22 v1 rfl rfl)
  have hR1 : BysRaw W A1 n1 := param_bys Tryz.underlying22 Tryz.underlying5 (by kernel_rfl) h1
  have hL0 : laidMet Tryz.prog Rows.fnFaultTestsRow.laid W := by rw [MakeChecks.laidMetH_plain _ _ _ (by kernel_rfl)] at hL; exact hL
  have hE : Env W := ⟨tab_of hL0.tail.tail, errs_of hL0.tail.tail.tail, names_of hL0.tail.tail.tail.tail.tail, maxl_of hSh⟩
  clear hA0 hval0
  refine (walk A0 n0 c0 A1 n1 c1 W hR0 hR1 hE).mono fun e W' ⟨he, bel⟩ => ?_
  subst he
  have hV' := Below.trodVars laidOut bel (by kernel_rfl) hV
  subst hgs
  exact ⟨_, rfl, _, _, _, [], _, q, hW', trodAll_mk1 (shut_bool Tryz.underlying4 _), (trodAll_cons_mk (Below.trod laidOut (by kernel_rfl) (of_decide_eq_true (by kernel_rfl)) t0 bel lt0) (trodAll_cons_mk (Below.trod laidOut (by kernel_rfl) (of_decide_eq_true (by kernel_rfl)) t1 bel lt1) trodAll_mk0)), hV', bel.frame _, fun h => by cases h⟩

theorem row_holds : Rows.FnFaultTestsSaid :=
  OpenClaim.holds_of_wide 3 Tryz.f3 rfl rfl rfl rfl rfl rfl rfl ⟨rfl, rfl, rfl, rfl, rfl⟩ rfl rfl rfl rfl rfl (by kernel_rfl) Tryz.func3 (by kernel_rfl)
    (of_decide_eq_true (by kernel_rfl)) (by unfold Func.isWrapper; first | (rw [if_pos (by decide +kernel)]; kernel_rfl) | (rw [if_neg (by decide +kernel)]; exact ⟨rfl, rfl⟩))
    (fun os started H enc _ => lifted os started H enc)

theorem proved : Rows.FnFaultTestsCardSaid :=
  Claim7.holds_tied_plain_at .later [] [.data, .data, .data, .sentinel, .sentinel, .widerDeep] true Rows.fnFaultTestsCard.stood.harness true
    row_holds (fun _ h => by cases h) (by kernel_rfl) (fun _ h => by cases h) fnFaultTests_row_tie rfl ⟨rfl, rfl⟩ (by kernel_rfl) rfl
    (fun f fn hf hfn => by
      obtain rfl : f = 3 := Option.some.inj ((show Tryz.prog.funcNamed "loop.example/g01042/laws.FnFaultTests" = some 3 by kernel_rfl).symm.trans hf) |>.symm
      obtain rfl : fn = Tryz.f3 := (Option.some.inj (Tryz.func3.symm.trans hfn)).symm
      exact ⟨by kernel_rfl, fun j t ht => by
        rw [Tryz.params3] at ht
        have hm : t ∈ [22, 22] := by simpa using Array.mem_of_getElem? ht
        have hall : ([22, 22].all fun u => !Tryz.prog.wantsStandIn u) = true := by kernel_rfl
        exact (show Tryz.prog.wantsStandIn t = false by simpa using List.all_eq_true.1 hall t hm)⟩)
    (by kernel_rfl)
end Go.Proofs.YtmapjepdcbpalaaGreatDoor.lawFnFaultTests
