/- The contract of the reference's ReadCause. -/
import Derived.Test.YtmapjepdcbpalaaDoorRC0
import Derived.Test.YtmapjepdcbpalaaDoorSP
import Derived.Test.YtmapjepdcbpalaaDoorCT2
namespace Go.Proofs.YtmapjepdcbpalaaDoor
open Go.RowKit
set_option linter.unusedVariables false

theorem l18Words_cells (w : World) :
    Calls Tryd.prog 12 #[] w fun e w' => ∃ X, e = .returned (.slice (some ⟨X, 0, none⟩) 3 3) ∧ (∀ i : Nat, i < 3 → w'.cell? ⟨X, i, none⟩ = some (.string (wordS ((i : Int) + 1)))) ∧ X < w'.heap.size ∧ Below w.heap.size w w' :=
  (l18Words_any w).mono fun e w' ⟨he, hw⟩ => by
    subst hw
    refine ⟨_, he, fun i hi => ?_, by simp, (Below.refl _ _).alloc (Nat.le_refl _) _⟩
    have h3 : i = 0 ∨ i = 1 ∨ i = 2 := by omega
    rcases h3 with rfl | rfl | rfl
    · go_simp; rfl
    · go_simp; rfl
    · go_simp; rfl
def NoneAt (p : List UInt8) (o : Option Int) (i : Nat) : Prop := ∀ n, o = some n → ∀ j : Nat, j < i → ¬ (p = wordL ((j : Int) + 1) ∧ causeB ⟨(j : Int) + 1, n⟩ = true)
theorem NoneAt.next {p : List UInt8} {o : Option Int} {i : Nat} (h : NoneAt p o i) (k : ∀ n, o = some n → ¬ (p = wordL ((i : Int) + 1) ∧ causeB ⟨(i : Int) + 1, n⟩ = true)) : NoneAt p o (i + 1) := fun n hn j hj => by
  rcases Nat.lt_or_ge j i with hlt | hge
  · exact h n hn j hlt
  · obtain rfl : j = i := by omega
    exact k n hn
theorem NoneAt.all {l p q : List UInt8} (h : splitL 32 l = [p, q]) (k : NoneAt p (numO q) 3) : ∀ c, ¬ IsRead l c := by
  cases hn : numO q with
  | none => exact not_num h hn
  | some n => exact not_word h hn fun j hj => k n hn j hj
theorem str_eq {a b : ByteArray} (h : a = b) : (a.toList == b.toList) = true := by rw [h]; simp
set_option maxRecDepth 20000 in
set_option maxHeartbeats 8000000 in
theorem specReadCause_any (s : ByteArray) (w : World) (hs : s.size ≤ 1048576) :
    Calls Tryd.prog 8 #[.string s] w fun e w' => e = .returned (readV s.data.toList) ∧ Below w.heap.size w w' := by
  have hsplit : ∀ W, Calls Tryd.prog 16 #[.string s, .int .u8 32] W (Split s.data.toList 32 W) := fun W => l01Split_any s 32 W hs
  by_cases h2 : (splitL 32 s.data.toList).length = 2
  · obtain ⟨p, q, hpq⟩ : ∃ p q, splitL 32 s.data.toList = [p, q] := by
      match e : splitL 32 s.data.toList, h2 with
      | [p, q], _ => exact ⟨p, q, rfl⟩
    have hqs : q.length ≤ 1048576 := by
      have := (split_two.1 hpq).1
      have h3 := congrArg List.length this
      rw [List.length_append, List.length_cons, ← Lib.size_eq] at h3; omega
    have HPQ := Lib.hid hpq
    unfold Split at hsplit
    rw [hpq] at hsplit
    obtain ⟨P, hP⟩ : ∃ P : ByteArray, ⟨p.toArray⟩ = P := ⟨_, rfl⟩
    obtain ⟨Q, hQ⟩ : ∃ Q : ByteArray, ⟨q.toArray⟩ = Q := ⟨_, rfl⟩
    have HQ := Lib.hid (show Q.data.toList = q by rw [← hQ])
    have HP := Lib.hid (show P.data.toList = p by rw [← hP])
    have HP2 := Lib.hid hP; have HQ2 := Lib.hid hQ
    have hnum := fun W => l01Number_any Q W (by rw [Lib.size_eq, HQ.out]; exact hqs)
    obtain ⟨o, hno⟩ : ∃ o, numO q = o := ⟨_, rfl⟩
    unfold NumC at hnum
    rw [HQ.out, hno] at hnum
    have HNO := Lib.hid hno
    clear h2 hpq hP hQ hno hqs
    go_enter Tryd.func8, Tryd.ntmps8
    go_wp2_with fail
    refine (hsplit _).mono ?_; rintro e w1 ⟨g, cap, rfl, hst, hgl, hb1⟩
    have B1 : Below w.heap.size w w1 := bel_tr (by first | (go_grown; done) | (go_split_ands; assumption)) hb1
    obtain ⟨hc1, hf1⟩ := bcell hb1
    have hz1 := hb1.size; simp only [World.size_alloc] at hz1
    have a0 : w1.cell? ⟨w.heap.size, 0, none⟩ = some (.int .i64 0) := (hc1 _ 0 (by simp)).trans (by go_simp)
    have a1 : w1.cell? ⟨w.heap.size, 1, none⟩ = some (.int .i64 0) := (hc1 _ 1 (by simp)).trans (by go_simp)
    have f0 : w1.frozen? ⟨w.heap.size, 0, none⟩ = false := (hf1 _ 0 (by simp)).trans (by go_simp)
    have f1 : w1.frozen? ⟨w.heap.size, 1, none⟩ = false := (hf1 _ 1 (by simp)).trans (by go_simp)
    have s0 : w1.cell? ⟨g, 0, none⟩ = some (.string P) := by rw [← HP2.out]; exact hst 0 p rfl
    have s1 : w1.cell? ⟨g, 1, none⟩ = some (.string Q) := by rw [← HQ2.out]; exact hst 1 q rfl
    clear hc1 hf1 hb1 hst hsplit
    go_wp2_with fail
    refine (hnum _).mono ?_; rintro e w2 ⟨rfl, hb2⟩
    go_wp2_with fail
    refine (l18Words_cells _).mono ?_; rintro e w3 ⟨X, rfl, hX, hXl, hb3⟩
    have T3 : Below w1.heap.size w1 w3 := bel_tr hb2 hb3
    obtain ⟨hc3, hf3⟩ := bcell T3
    have hz3 := T3.size
    have b0 := (hc3 _ 0 (by omega)).trans a0
    have b1 := (hc3 _ 1 (by omega)).trans a1
    have g0 := (hf3 _ 0 (by omega)).trans f0
    have g1 := (hf3 _ 1 (by omega)).trans f1
    have t0 := (hc3 _ 0 hgl).trans s0
    have hgl3 : g < w3.heap.size := by omega
    have hl3 : w.heap.size < w3.heap.size := by omega
    have B3 : Below w.heap.size w w3 := bel_tr B1 T3
    have HX := Lib.hid hX
    clear hc3 hf3 hb2 hb3 T3 a0 a1 f0 f1 s0 s1 hX hnum
    obtain ⟨n, hn⟩ : ∃ n, o.getD 0 = n := ⟨_, rfl⟩
    obtain ⟨k, hk⟩ : ∃ k, o.isSome = k := ⟨_, rfl⟩
    have HO := Lib.hid (show k = true → o = some n from fun h => by
      cases o with
      | none => rw [← hk] at h; cases h
      | some m => rw [← hn]; rfl)
    have HO2 := Lib.hid (show k = false → o = none from fun h => by
      cases o with
      | none => rfl
      | some m => rw [← hk] at h; cases h)
    rw [hn, hk]
    clear hn hk
    go_wp2_with fail
    go_loopw [8] (fun t wr => ∃ i : Nat, i ≤ 3 ∧ t = .int .i64 i ∧ NoneAt p o i ∧ Below w3.heap.size w3 wr) (fun t _ => 3 - (intOf t).toNat)
    case atStart => exact ⟨0, by omega, rfl, fun _ _ j hj => absurd hj (by omega), Below.refl _ _⟩
    case round =>
      obtain ⟨i, hi, rfl, hNA, hB⟩ := hrel
      have HNA := Lib.hid hNA; have HB := Lib.hid hB
      have hzr := hB.size
      clear hNA hB
      obtain ⟨wo, rfl⟩ : ∃ wo : World, wo = wr := ⟨_, rfl⟩
      by_cases hlt : i < 3
      · have hil : (i : Int) < 3 := by omega
        have hi0 : 0 ≤ (i : Int) + 1 := by omega
        have xi : wo.cell? ⟨X, i, none⟩ = some (.string (wordS ((i : Int) + 1))) := (HB.out.cell (p := ⟨X, i, none⟩) hXl).trans (HX.out i hlt)
        have ti : wo.cell? ⟨g, 0, none⟩ = some (.string P) := (HB.out.cell (p := ⟨g, 0, none⟩) hgl3).trans t0
        have hXo : X < wo.heap.size := by omega
        have hgo : g < wo.heap.size := by omega
        have hwo : w.heap.size < wo.heap.size := by omega
        have r0 := (HB.out.cell (p := ⟨w.heap.size, 0, none⟩) hl3).trans b0
        have r1 := (HB.out.cell (p := ⟨w.heap.size, 1, none⟩) hl3).trans b1
        have u0 := (HB.out.frozen (p := ⟨w.heap.size, 0, none⟩) hl3).trans g0
        have u1 := (HB.out.frozen (p := ⟨w.heap.size, 1, none⟩) hl3).trans g1
        have hX2 : X ≤ wo.heap.size := by omega
        have hX3 : X < wo.heap.size + 1 := by omega
        have hg2 : g ≤ wo.heap.size := by omega
        have hg3 : g < wo.heap.size + 1 := by omega
        have hXn : X ≠ wo.heap.size := by omega
        have hgn : g ≠ wo.heap.size := by omega
        have xa : (wo.alloc (.cells #[.int .i64 ((i : Int) + 1), .int .i64 n] 25)).cell? ⟨X, i, none⟩ = some (.string (wordS ((i : Int) + 1))) := alloc_atS xi hXo _
        have ta : (wo.alloc (.cells #[.int .i64 ((i : Int) + 1), .int .i64 n] 25)).cell? ⟨g, 0, none⟩ = some (.string P) := alloc_atS ti hgo _
        obtain ⟨WS, hWS⟩ : ∃ WS, wordS ((i : Int) + 1) = WS := ⟨_, rfl⟩
        by_cases e1 : p = wordL ((i : Int) + 1)
        · have hq : (WS.toList == P.toList) = true := str_eq (by
            refine Go.WideShapes.bytes_inj ?_
            rw [HP.out, e1, wordL, hWS])
          rw [hWS] at xi xa
          clear hWS
          cases k with
          | false =>
            have N2 := Lib.hid (HNA.out.next fun m hm => by rw [HO2.out rfl] at hm; cases hm)
            go_wp2_with fail
            go_quiet (fail)
            go_wp2_with fail
            go_roundw
            case rel => exact ⟨i + 1, by omega, by go_num, N2.out, below_drewN (HB.out.alloc (by omega) _) _⟩
            case measure => simp [intOf]; omega
          | true =>
            obtain ⟨cb, hcb⟩ : ∃ cb, causeB ⟨(i : Int) + 1, n⟩ = cb := ⟨_, rfl⟩
            have CB := Lib.hid hcb
            have E1 := Lib.hid e1
            clear hcb e1
            go_wp2_with fail
            go_region_held3 (fun w' => w'.cell? ⟨X, i, none⟩ = some (.string WS) ∧ w'.cell? ⟨g, 0, none⟩ = some (.string P) ∧ w'.cell? ⟨wo.heap.size, 0, none⟩ = some (.int .i64 ((i : Int) + 1)) ∧ w'.cell? ⟨wo.heap.size, 1, none⟩ = some (.int .i64 n) ∧ X < w'.heap.size ∧ g < w'.heap.size ∧ wo.heap.size < w'.heap.size ∧ Below wo.heap.size wo w')
              ((try refine ⟨?_, ?_, ?_, ?_, ?_, ?_, ?_, ?_⟩) <;> (first | go_keep | (go_grown; done) | (go_split_ands; first | exact (hb1.cell (p := ⟨_, _, none⟩) (by assumption)).trans (by assumption) | exact Nat.lt_of_lt_of_le (by assumption) hb1.size | exact bel_tr (by assumption) hb1) | (simp only [World.size_drew, World.size_alloc]; omega) | (go_split_ands; simp only [World.size_drew, World.size_alloc]; omega) | (go_split_ands; exact Nat.lt_trans (by assumption) (by simp))))
              ((go_at_call 11; refine (asB (l18Cause_any ⟨(i : Int) + 1, n⟩ _) CB.out).mono ?_; rintro e w5 ⟨rfl, hb1⟩))
            all_goals
              cases cb with
              | false =>
                have N2 := Lib.hid (HNA.out.next fun m hm h => by
                  obtain rfl := Option.some.inj (hm.symm.trans (HO.out (by trivial)))
                  rw [CB.out] at h; exact absurd h.2 (by simp))
                go_wp2_with fail
                go_roundw
                case rel => exact ⟨i + 1, by omega, by go_num, N2.out, by go_split_ands; exact HB.out.trans (Below.mono (by assumption) (by omega))⟩
                case measure => simp [intOf]; omega
              | true =>
                have R := Lib.hid (readV_some (IsRead.of_split (n := n) (k := (i : Int) + 1) HPQ.out (HNO.out.trans (HO.out (by trivial))) E1.out CB.out))
                go_split_ands
                rename Below wo.heap.size wo _ => hbW
                have r0' := (hbW.cell (p := ⟨w.heap.size, 0, none⟩) hwo).trans r0
                have r1' := (hbW.cell (p := ⟨w.heap.size, 1, none⟩) hwo).trans r1
                have u0' := (hbW.frozen (p := ⟨w.heap.size, 0, none⟩) hwo).trans u0
                have u1' := (hbW.frozen (p := ⟨w.heap.size, 1, none⟩) hwo).trans u1
                have hsW := hbW.size
                have T9 := B3.trans ((HB.out.trans (hbW.mono (by omega))).mono (by omega))
                have hne : w.heap.size ≠ wo.heap.size := by omega
                go_wp2_with fail
                refine bodyPost_ret (v := .tuple #[.agg #[.int .i64 ((i : Int) + 1), .int .i64 n], .bool true]) (by simp [results, Tryd.results8, go_sem, r0', r1']) rfl ⟨by rw [R.out], ?_⟩
                go_grown
        · have hq : (WS.toList == P.toList) = false := str_ne (fun h => e1 (by rw [wordL, hWS, h, HP.out]))
          rw [hWS] at xi xa
          have N2 := Lib.hid (HNA.out.next fun m hm h => e1 h.1)
          clear hWS e1
          go_wp2_with fail
          go_quiet (fail)
          go_wp2_with fail
          go_roundw
          case rel => exact ⟨i + 1, by omega, by go_num, N2.out, below_drewN (HB.out.alloc (by omega) _) _⟩
          case measure => simp [intOf]; omega
      · obtain rfl : i = 3 := by omega
        have R := Lib.hid (readV_none (NoneAt.all HPQ.out (by rw [HNO.out]; exact HNA.out)))
        have hwo : w.heap.size < wo.heap.size := by omega
        have r0 := (HB.out.cell (p := ⟨w.heap.size, 0, none⟩) hl3).trans b0
        have r1 := (HB.out.cell (p := ⟨w.heap.size, 1, none⟩) hl3).trans b1
        have u0 := (HB.out.frozen (p := ⟨w.heap.size, 0, none⟩) hl3).trans g0
        have u1 := (HB.out.frozen (p := ⟨w.heap.size, 1, none⟩) hl3).trans g1
        have T9 : Below w.heap.size w wo := B3.trans (HB.out.mono (by omega))
        go_wp2_with fail
        refine bodyPost_ret (v := .tuple #[.agg #[.int .i64 0, .int .i64 0], .bool false]) (by simp [results, Tryd.results8, go_sem, r0, r1]) rfl ⟨by rw [R.out], ?_⟩
        go_grown
  · have R := Lib.hid (readV_none (not_two h2))
    obtain ⟨m, hm⟩ : ∃ m, (splitL 32 s.data.toList).length = m := ⟨_, rfl⟩
    have hm2 : ((m : Int) == 2) = false := by rw [beq_eq_false_iff_ne]; omega
    unfold Split at hsplit
    rw [hm] at hsplit
    clear h2 hm
    go_enter Tryd.func8, Tryd.ntmps8
    go_wp2_with fail
    refine (hsplit _).mono ?_; rintro e w1 ⟨g, cap, rfl, _, hgl, hb1⟩
    have B1 : Below w.heap.size w w1 := bel_tr (by first | (go_grown; done) | (go_split_ands; assumption)) hb1
    obtain ⟨hc1, hf1⟩ := bcell hb1
    have hz1 := hb1.size; simp only [World.size_alloc] at hz1
    have a0 : w1.cell? ⟨w.heap.size, 0, none⟩ = some (.int .i64 0) := (hc1 _ 0 (by simp)).trans (by go_simp)
    have a1 : w1.cell? ⟨w.heap.size, 1, none⟩ = some (.int .i64 0) := (hc1 _ 1 (by simp)).trans (by go_simp)
    have f0 : w1.frozen? ⟨w.heap.size, 0, none⟩ = false := (hf1 _ 0 (by simp)).trans (by go_simp)
    have f1 : w1.frozen? ⟨w.heap.size, 1, none⟩ = false := (hf1 _ 1 (by simp)).trans (by go_simp)
    clear hc1 hf1 hb1
    go_wp2_with fail
    refine bodyPost_ret (v := .tuple #[.agg #[.int .i64 0, .int .i64 0], .bool false]) (by simp [results, Tryd.results8, go_sem, a0, a1]) rfl ⟨by rw [R.out], ?_⟩
    go_grown
end Go.Proofs.YtmapjepdcbpalaaDoor
