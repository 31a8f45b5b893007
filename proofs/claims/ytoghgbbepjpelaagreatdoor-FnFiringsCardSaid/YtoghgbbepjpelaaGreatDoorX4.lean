/- The contracts of FireFault, the reference's and the program's, joined. -/
import Derived.Test.YtoghgbbepjpelaaGreatDoorX3
namespace Go.Proofs.YtoghgbbepjpelaaGreatDoor
open Go.RowKit
set_option linter.unusedVariables false

set_option maxRecDepth 100000 in
set_option maxHeartbeats 8000000 in
theorem specFireFault_any (A : Option Addr) (n c : Nat) (xs : List HeatRule) (D : Option Addr) (m d : Nat) (ds : List Int) (w : World) (hA : HeatRuleS w A n xs) (hD : Ints w D m ds) :
    Calls Tryz.prog 12 #[.slice A n c, .slice D m d] w (NumText (fireF xs ds) w) := by
  have hn := hA.bound
  rcases Bool.eq_false_or_eq_true (rulesOk xs) with ok | ok
  · rcases Bool.eq_false_or_eq_true (firB ds) with fir | fir
    · have E := Lib.hid (show fireF xs ds = ((ffF xs ds).1, (ffF xs ds).2, 0) by rw [fireF, if_pos ok, if_pos fir])
      have hl := rulesOk_facts ok
      rw [hA.len] at hl
      have hu := (rulesOk_rule ok (k := 0) (by rw [hA.len]; omega)).1
      obtain ⟨hm0, hm1, _⟩ := firB_parts fir
      rw [hD.len] at hm0 hm1
      have hA0 := hA
      have hD0 := hD
      have LX := Lib.hid hA.len
      have LD := Lib.hid hD.len
      have FIR := Lib.hid (fun (i : Nat) (hi : i < m) => firB_nth fir (k := i) (by rw [hD.len]; exact hi))
      have FE0 := Lib.hid (show ffF xs ds = if (nt xs 0).Upto < nth ds 0 then (0, ⟨#[104, 111, 116]⟩) else ffEnd xs ds n m by rw [ffF, hA.len, hD.len])
      have OK := Lib.hid ok; have FI := Lib.hid fir; clear ok fir
      obtain ⟨bd0, od0, rfl, hbd0, hcd0⟩ := hD.cell (by omega)
      have x0 : w.cell? ⟨bd0, od0 + 0, none⟩ = some (.int .i64 (nth ds 0)) := hcd0 0 (by omega)
      obtain ⟨bx0, ox0, rfl, hbx0, hcx0⟩ := hA.cell (by omega)
      have x1 : (nt xs 0).lies w bx0 (ox0 + 0 * 3) := hcx0 0 (by omega)
      rw [Nat.add_zero] at x0
      rw [Nat.zero_mul, Nat.add_zero] at x1
      have X1 := Lib.hid x1; have X0 := Lib.hid x0
      clear hcd0 hcx0 x0 x1
      by_cases h0 : (nt xs 0).Upto < nth ds 0
      · have FE := Lib.hid (show ffF xs ds = (0, ⟨#[104, 111, 116]⟩) by rw [FE0.out, if_pos h0])
        have t0 : decide ((nt xs 0).Upto < nth ds 0) = true := by simpa using h0
        go_enter Tryz.func12, Tryz.ntmps12
        go_wp2_with fail
        refine (asB (l16Ok_any _ _ _ xs _ hA0) OK.out).mono ?_; rintro e w1 ⟨rfl, hb1⟩
        go_wp2_with fail
        refine (degrees_ok (hD0.below hb1) FI.out).mono ?_; rintro e w' ⟨rfl, rfl⟩
        have x0 := (hb1.cell (p := ⟨bd0, od0, none⟩) hbd0).trans X0.out
        obtain ⟨x1, x2, x3⟩ := X1.out.keep (w' := w1) fun o => hb1.cell (p := ⟨bx0, o, none⟩) hbx0
        go_wp2_with fail
        go_quiet (fail)
        go_wp2
        go_ret3
        exact NumText.mk (by rw [E.out, FE.out]) (below_drewN hb1 _)
      · have FE := Lib.hid (show ffF xs ds = ffEnd xs ds n m by rw [FE0.out, if_neg h0])
        have t0 : decide ((nt xs 0).Upto < nth ds 0) = false := by simpa using h0
        have h0' : nth ds 0 ≤ (nt xs 0).Upto := by omega
        go_enter Tryz.func12, Tryz.ntmps12
        go_wp2_with fail
        refine (asB (l16Ok_any _ _ _ xs _ hA0) OK.out).mono ?_; rintro e w1 ⟨rfl, hb1⟩
        go_wp2_with fail
        refine (degrees_ok (hD0.below hb1) FI.out).mono ?_; rintro e w' ⟨rfl, rfl⟩
        have x0 := (hb1.cell (p := ⟨bd0, od0, none⟩) hbd0).trans X0.out
        obtain ⟨x1, x2, x3⟩ := X1.out.keep (w' := w1) fun o => hb1.cell (p := ⟨bx0, o, none⟩) hbx0
        go_wp2_with fail
        go_quiet (fail)
        go_wp2
        clear x0 x1 x2 x3
        have HB0 : ∀ q, Below w.heap.size w (w1.drewN q) := fun q => below_drewN hb1 q
        go_loopw [8, 9, 10] (fun u v i wr => ∃ (j k : Nat) (held : Int), j + 1 ≤ m ∧ i = .int .i64 ((j : Int) + 1) ∧ u = .int .i64 k ∧ v = .int .i64 held ∧ ff xs ds n j = .go k held ∧ k < n ∧ 0 ≤ held ∧ held ≤ j ∧ nth ds j ≤ (nt xs k).Upto ∧ Below w.heap.size w wr) (fun _ _ i _ => m + 1 - (intOf i).toNat)
        case atStart => exact ⟨0, 0, 0, by omega, rfl, rfl, rfl, rfl, by omega, by omega, by omega, by omega, HB0 _⟩
        case round =>
          obtain ⟨j, k, held, hj, rfl, rfl, rfl, hff, hkn, hh0, hh1, hle, hB⟩ := hrel
          have FF := Lib.hid hff; clear hff
          obtain ⟨bd, od, hed, hbd, hcd⟩ := (hD0.below hB).cell (by omega)
          simp only [Option.some.injEq, Addr.mk.injEq, and_true] at hed
          obtain ⟨rfl, rfl⟩ := hed
          have hd0 := hcd j (by omega)
          obtain ⟨bx, ox, hex, hbx, hcx⟩ := (hA0.below hB).cell (by omega)
          simp only [Option.some.injEq, Addr.mk.injEq, and_true] at hex
          obtain ⟨rfl, rfl⟩ := hex
          obtain ⟨r0, r1, r2⟩ := hcx k hkn
          have HCX := Lib.hid hcx
          obtain ⟨⟨u0, u1⟩, ⟨u2, u3⟩, ⟨u4, u5⟩⟩ := rulesOk_rule OK.out (k := k) (by rw [LX.out]; exact hkn)
          have g0 := FIR.out j (by omega)
          by_cases hlt : j + 1 < m
          · have hd1 := hcd (j + 1) hlt
            have hji0 : (0 : Int) ≤ (j : Int) + 1 := by omega
            have hji1 : (j : Int) + 1 < (m : Int) := by omega
            have g1 := FIR.out (j + 1) hlt
            clear hcd hcx
            by_cases q1 : nth ds j = (nt xs k).Upto
            · by_cases q2 : nth ds (j + 1) = nth ds j
              · have t0 : (nth ds j == (nt xs k).Upto) = true := by simp; omega
                have t1 : (nth ds (j + 1) == (nt xs k).Upto) = true := by simp; omega
                have F := Lib.hid (show ff xs ds n (j + 1) = .go (k) (held + 1) by rw [ff_next FF.out, ffStep]; repeat (first | rw [if_pos (by omega)] | rw [if_neg (by omega)] | (rw [ffCheck]; done) | rfl | (unfold ffCheck)))
                skip
                go_wp2_with fail
                repeat (first | (go_quiet (fail); go_wp2) | fail)
                go_roundw
                case rel => exact ⟨j + 1, k, held + 1, by omega, by go_num, by first | rfl | go_num, by first | rfl | go_num, F.out, by omega, by omega, by omega, by omega, (by first | exact below_drewN hB _ | exact hB | exact below_drewN (below_drewN hB _) _)⟩
                case measure => simp [intOf]; omega
              · by_cases q3 : nth ds j < nth ds (j + 1)
                · by_cases q4 : held < (nt xs k).Hold
                  · have t0 : (nth ds j == (nt xs k).Upto) = true := by simp; omega
                    have t1 : (nth ds (j + 1) == (nt xs k).Upto) = false := by simp; omega
                    have t2 : decide ((nt xs k).Upto < nth ds (j + 1)) = true := by simp; omega
                    have t3 : decide (held < (nt xs k).Hold) = true := by simp; omega
                    have F := Lib.hid (show ff xs ds n (j + 1) = .stop ((j : Int) + 1) ⟨#[104, 111, 108, 100]⟩ by rw [ff_next FF.out, ffStep]; repeat (first | rw [if_pos (by omega)] | rw [if_neg (by omega)] | rfl | (unfold ffCheck)))
                    skip
                    go_wp2_with fail
                    repeat (first | (go_quiet (fail); go_wp2) | fail)
                    go_ret3
                    exact NumText.mk (by rw [E.out, FE.out, ffEnd_stop F.out (by omega)]) (by first | exact below_drewN hB _ | exact hB | exact below_drewN (below_drewN hB _) _)
                  · by_cases q5 : k + 1 = n
                    · have t0 : (nth ds j == (nt xs k).Upto) = true := by simp; omega
                      have t1 : (nth ds (j + 1) == (nt xs k).Upto) = false := by simp; omega
                      have t2 : decide ((nt xs k).Upto < nth ds (j + 1)) = true := by simp; omega
                      have t3 : decide (held < (nt xs k).Hold) = false := by simp; omega
                      have t4 : ((k : Int) == (n : Int) - 1) = true := by simp; omega
                      have F := Lib.hid (show ff xs ds n (j + 1) = .stop ((j : Int) + 1) ⟨#[104, 111, 116]⟩ by rw [ff_next FF.out, ffStep]; repeat (first | rw [if_pos (by omega)] | rw [if_neg (by omega)] | rfl | (unfold ffCheck)))
                      skip
                      go_wp2_with fail
                      repeat (first | (go_quiet (fail); go_wp2) | fail)
                      go_ret3
                      exact NumText.mk (by rw [E.out, FE.out, ffEnd_stop F.out (by omega)]) (by first | exact below_drewN hB _ | exact hB | exact below_drewN (below_drewN hB _) _)
                    · have hkn1 : k + 1 < n := by omega
                      obtain ⟨⟨v0, v1⟩, ⟨v2, v3⟩, ⟨v4, v5⟩⟩ := rulesOk_rule OK.out (k := k + 1) (by rw [LX.out]; omega)
                      have vs := rulesOk_step OK.out (k := k) (by rw [LX.out]; omega)
                      obtain ⟨p0, p1, p2⟩ := HCX.out (k + 1) hkn1
                      have hki0 : (0 : Int) ≤ (k : Int) + 1 := by omega
                      have hki1 : (k : Int) + 1 < (n : Int) := by omega
                      by_cases q6 : (nt xs (k + 1)).Upto < nth ds (j + 1)
                      · have t0 : (nth ds j == (nt xs k).Upto) = true := by simp; omega
                        have t1 : (nth ds (j + 1) == (nt xs k).Upto) = false := by simp; omega
                        have t2 : decide ((nt xs k).Upto < nth ds (j + 1)) = true := by simp; omega
                        have t3 : decide (held < (nt xs k).Hold) = false := by simp; omega
                        have t4 : ((k : Int) == (n : Int) - 1) = false := by simp; omega
                        have t5 : decide ((nt xs (k + 1)).Upto < nth ds (j + 1)) = true := by simp; omega
                        have F := Lib.hid (show ff xs ds n (j + 1) = .stop ((j : Int) + 1) ⟨#[104, 111, 116]⟩ by rw [ff_next FF.out, ffStep]; repeat (first | rw [if_pos (by omega)] | rw [if_neg (by omega)] | rfl | (unfold ffCheck)))
                        skip
                        go_wp2_with fail
                        repeat (first | (go_quiet (fail); go_wp2) | fail)
                        go_ret3
                        exact NumText.mk (by rw [E.out, FE.out, ffEnd_stop F.out (by omega)]) (by first | exact below_drewN hB _ | exact hB | exact below_drewN (below_drewN hB _) _)
                      · by_cases q7 : nth ds j + (nt xs (k + 1)).Rise < nth ds (j + 1)
                        · have t0 : (nth ds j == (nt xs k).Upto) = true := by simp; omega
                          have t1 : (nth ds (j + 1) == (nt xs k).Upto) = false := by simp; omega
                          have t2 : decide ((nt xs k).Upto < nth ds (j + 1)) = true := by simp; omega
                          have t3 : decide (held < (nt xs k).Hold) = false := by simp; omega
                          have t4 : ((k : Int) == (n : Int) - 1) = false := by simp; omega
                          have t5 : decide ((nt xs (k + 1)).Upto < nth ds (j + 1)) = false := by simp; omega
                          have t6 : decide ((nt xs (k + 1)).Rise < nth ds (j + 1) - nth ds j) = true := by simp; omega
                          have F := Lib.hid (show ff xs ds n (j + 1) = .stop ((j : Int) + 1) ⟨#[114, 105, 115, 101]⟩ by rw [ff_next FF.out, ffStep]; repeat (first | rw [if_pos (by omega)] | rw [if_neg (by omega)] | rfl | (unfold ffCheck)))
                          skip
                          go_wp2_with fail
                          repeat (first | (go_quiet (fail); go_wp2) | fail)
                          go_ret3
                          exact NumText.mk (by rw [E.out, FE.out, ffEnd_stop F.out (by omega)]) (by first | exact below_drewN hB _ | exact hB | exact below_drewN (below_drewN hB _) _)
                        · have t0 : (nth ds j == (nt xs k).Upto) = true := by simp; omega
                          have t1 : (nth ds (j + 1) == (nt xs k).Upto) = false := by simp; omega
                          have t2 : decide ((nt xs k).Upto < nth ds (j + 1)) = true := by simp; omega
                          have t3 : decide (held < (nt xs k).Hold) = false := by simp; omega
                          have t4 : ((k : Int) == (n : Int) - 1) = false := by simp; omega
                          have t5 : decide ((nt xs (k + 1)).Upto < nth ds (j + 1)) = false := by simp; omega
                          have t6 : decide ((nt xs (k + 1)).Rise < nth ds (j + 1) - nth ds j) = false := by simp; omega
                          have t7 : decide (nth ds (j + 1) < nth ds j) = false := by simp; omega
                          have F := Lib.hid (show ff xs ds n (j + 1) = .go (k + 1) (0) by rw [ff_next FF.out, ffStep]; repeat (first | rw [if_pos (by omega)] | rw [if_neg (by omega)] | (rw [ffCheck]; done) | rfl | (unfold ffCheck)))
                          skip
                          go_wp2_with fail
                          repeat (first | (go_quiet (fail); go_wp2) | fail)
                          go_roundw
                          case rel => exact ⟨j + 1, k + 1, 0, by omega, by go_num, by first | rfl | go_num, by first | rfl | go_num, F.out, by omega, by omega, by omega, by omega, (by first | exact below_drewN hB _ | exact hB | exact below_drewN (below_drewN hB _) _)⟩
                          case measure => simp [intOf]; omega
                · have t0 : (nth ds j == (nt xs k).Upto) = true := by simp; omega
                  have t1 : (nth ds (j + 1) == (nt xs k).Upto) = false := by simp; omega
                  have t2 : decide ((nt xs k).Upto < nth ds (j + 1)) = false := by simp; omega
                  have t3 : decide ((nt xs k).Rise < nth ds (j + 1) - nth ds j) = false := by simp; omega
                  have t4 : decide (nth ds (j + 1) < nth ds j) = true := by simp; omega
                  have F := Lib.hid (show ff xs ds n (j + 1) = .stop ((j : Int) + 1) ⟨#[102, 97, 108, 108]⟩ by rw [ff_next FF.out, ffStep]; repeat (first | rw [if_pos (by omega)] | rw [if_neg (by omega)] | rfl | (unfold ffCheck)))
                  skip
                  go_wp2_with fail
                  repeat (first | (go_quiet (fail); go_wp2) | fail)
                  go_ret3
                  exact NumText.mk (by rw [E.out, FE.out, ffEnd_stop F.out (by omega)]) (by first | exact below_drewN hB _ | exact hB | exact below_drewN (below_drewN hB _) _)
            · by_cases q2 : (nt xs k).Upto < nth ds (j + 1)
              · have t0 : (nth ds j == (nt xs k).Upto) = false := by simp; omega
                have t1 : decide ((nt xs k).Upto < nth ds (j + 1)) = true := by simp; omega
                have F := Lib.hid (show ff xs ds n (j + 1) = .stop ((j : Int) + 1) ⟨#[104, 111, 116]⟩ by rw [ff_next FF.out, ffStep]; repeat (first | rw [if_pos (by omega)] | rw [if_neg (by omega)] | rfl | (unfold ffCheck)))
                skip
                go_wp2_with fail
                repeat (first | (go_quiet (fail); go_wp2) | fail)
                go_ret3
                exact NumText.mk (by rw [E.out, FE.out, ffEnd_stop F.out (by omega)]) (by first | exact below_drewN hB _ | exact hB | exact below_drewN (below_drewN hB _) _)
              · by_cases q3 : nth ds j + (nt xs k).Rise < nth ds (j + 1)
                · have t0 : (nth ds j == (nt xs k).Upto) = false := by simp; omega
                  have t1 : decide ((nt xs k).Upto < nth ds (j + 1)) = false := by simp; omega
                  have t2 : decide ((nt xs k).Rise < nth ds (j + 1) - nth ds j) = true := by simp; omega
                  have F := Lib.hid (show ff xs ds n (j + 1) = .stop ((j : Int) + 1) ⟨#[114, 105, 115, 101]⟩ by rw [ff_next FF.out, ffStep]; repeat (first | rw [if_pos (by omega)] | rw [if_neg (by omega)] | rfl | (unfold ffCheck)))
                  skip
                  go_wp2_with fail
                  repeat (first | (go_quiet (fail); go_wp2) | fail)
                  go_ret3
                  exact NumText.mk (by rw [E.out, FE.out, ffEnd_stop F.out (by omega)]) (by first | exact below_drewN hB _ | exact hB | exact below_drewN (below_drewN hB _) _)
                · by_cases q4 : nth ds (j + 1) < nth ds j
                  · have t0 : (nth ds j == (nt xs k).Upto) = false := by simp; omega
                    have t1 : decide ((nt xs k).Upto < nth ds (j + 1)) = false := by simp; omega
                    have t2 : decide ((nt xs k).Rise < nth ds (j + 1) - nth ds j) = false := by simp; omega
                    have t3 : decide (nth ds (j + 1) < nth ds j) = true := by simp; omega
                    have F := Lib.hid (show ff xs ds n (j + 1) = .stop ((j : Int) + 1) ⟨#[102, 97, 108, 108]⟩ by rw [ff_next FF.out, ffStep]; repeat (first | rw [if_pos (by omega)] | rw [if_neg (by omega)] | rfl | (unfold ffCheck)))
                    skip
                    go_wp2_with fail
                    repeat (first | (go_quiet (fail); go_wp2) | fail)
                    go_ret3
                    exact NumText.mk (by rw [E.out, FE.out, ffEnd_stop F.out (by omega)]) (by first | exact below_drewN hB _ | exact hB | exact below_drewN (below_drewN hB _) _)
                  · have t0 : (nth ds j == (nt xs k).Upto) = false := by simp; omega
                    have t1 : decide ((nt xs k).Upto < nth ds (j + 1)) = false := by simp; omega
                    have t2 : decide ((nt xs k).Rise < nth ds (j + 1) - nth ds j) = false := by simp; omega
                    have t3 : decide (nth ds (j + 1) < nth ds j) = false := by simp; omega
                    have F := Lib.hid (show ff xs ds n (j + 1) = .go (k) (held) by rw [ff_next FF.out, ffStep]; repeat (first | rw [if_pos (by omega)] | rw [if_neg (by omega)] | (rw [ffCheck]; done) | rfl | (unfold ffCheck)))
                    skip
                    go_wp2_with fail
                    repeat (first | (go_quiet (fail); go_wp2) | fail)
                    go_roundw
                    case rel => exact ⟨j + 1, k, held, by omega, by go_num, by first | rfl | go_num, by first | rfl | go_num, F.out, by omega, by omega, by omega, by omega, (by first | exact below_drewN hB _ | exact hB | exact below_drewN (below_drewN hB _) _)⟩
                    case measure => simp [intOf]; omega
          · have JM := Lib.hid (show j = m - 1 by omega)
            obtain ⟨z0, z1, z2⟩ := hcx (n - 1) (by omega)
            have hd1 := hcd (m - 1) (by omega)
            have hn0 : (0 : Int) ≤ (n : Int) - 1 := by omega
            have hm0 : (0 : Int) ≤ (m : Int) - 1 := by omega
            have hnt : ((n : Int) - 1).toNat = n - 1 := by omega
            have hmt : ((m : Int) - 1).toNat = m - 1 := by omega
            clear hcd hcx
            by_cases c1 : k + 1 < n
            · have t_k : decide ((k : Int) < (n : Int) - 1) = true := by simp; omega
              have hBE := hB
              go_wp2_with fail
              repeat (first | (go_quiet (fail); go_wp2) | fail)
              go_ret3
              exact NumText.mk (by rw [E.out, FE.out, ffEnd_bad (by rw [← JM.out]; exact FF.out) (.inl c1)]) (by first | exact below_drewN hBE _ | exact hBE)
            · have hkl : k = n - 1 := by omega
              have hdl : nth ds (m - 1) ≤ (nt xs (n - 1)).Upto := by rw [← hkl, ← JM.out]; exact hle
              have hUk : (nt xs k).Upto = (nt xs (n - 1)).Upto := by rw [hkl]
              have hHk : (nt xs k).Hold = (nt xs (n - 1)).Hold := by rw [hkl]
              clear hkl
              by_cases c2 : nth ds (m - 1) = (nt xs (n - 1)).Upto
              · by_cases c3 : held < (nt xs (n - 1)).Hold
                · have t_k : decide ((k : Int) < (n : Int) - 1) = false := by simp; omega
                  have t_d : decide (nth ds (m - 1) < (nt xs k).Upto) = false := by simp; omega
                  have t_h : decide (held < (nt xs k).Hold) = true := by simp; omega
                  have HU := Lib.hid hUk; have HH := Lib.hid hHk; clear hUk hHk
                  have C2 := Lib.hid c2; clear c2
                  have hBE := hB
                  go_wp2_with fail
                  repeat (first | (go_quiet (fail); go_wp2) | fail)
                  go_ret3
                  exact NumText.mk (by rw [E.out, FE.out, ffEnd_bad (by rw [← JM.out]; exact FF.out) (.inr (.inr c3))]) (by first | exact below_drewN hBE _ | exact hBE)
                · have t_k : decide ((k : Int) < (n : Int) - 1) = false := by simp; omega
                  have t_d : decide (nth ds (m - 1) < (nt xs k).Upto) = false := by simp; omega
                  have t_h : decide (held < (nt xs k).Hold) = false := by simp; omega
                  have HU := Lib.hid hUk; have HH := Lib.hid hHk; clear hUk hHk
                  have C2 := Lib.hid c2; clear c2
                  have hBE := hB
                  go_wp2_with fail
                  repeat (first | (go_quiet (fail); go_wp2) | fail)
                  go_ret3
                  exact NumText.mk (by rw [E.out, FE.out, ffEnd_good (by rw [← JM.out]; exact FF.out) (by rintro (h | h | h) <;> first | exact c1 h | exact h (by first | exact C2.out | exact c2) | omega)]) (by first | exact below_drewN hBE _ | exact hBE)
              · have t_k : decide ((k : Int) < (n : Int) - 1) = false := by simp; omega
                have t_d : decide (nth ds (m - 1) < (nt xs k).Upto) = true := by simp; omega
                have HU := Lib.hid hUk; have HH := Lib.hid hHk; clear hUk hHk
                have hBE := hB
                go_wp2_with fail
                repeat (first | (go_quiet (fail); go_wp2) | fail)
                go_ret3
                exact NumText.mk (by rw [E.out, FE.out, ffEnd_bad (by rw [← JM.out]; exact FF.out) (.inr (.inl c2))]) (by first | exact below_drewN hBE _ | exact hBE)

    · have E := Lib.hid (show fireF xs ds = (0, ⟨#[]⟩, 2) by rw [fireF, if_pos ok, fir]; rfl)
      have OK := Lib.hid ok; have FI := Lib.hid fir; clear ok fir
      go_enter Tryz.func12, Tryz.ntmps12
      go_wp2_with fail
      refine (asB (l16Ok_any _ _ _ xs _ hA) OK.out).mono ?_; rintro e w1 ⟨rfl, hb1⟩
      go_wp2_with fail
      refine (degrees_no (hD.below hb1) FI.out).mono ?_; rintro e w' ⟨rfl, rfl⟩
      go_wp2_with fail
      go_ret3
      exact NumText.mk E.out hb1
  · have E := Lib.hid (show fireF xs ds = (0, ⟨#[]⟩, 1) by rw [fireF, ok]; rfl)
    have OK := Lib.hid ok; clear ok
    go_enter Tryz.func12, Tryz.ntmps12
    go_wp2_with fail
    refine (asB (l16Ok_any _ _ _ xs _ hA) OK.out).mono ?_; rintro e w1 ⟨rfl, hb1⟩
    go_wp2_with fail
    go_ret3
    exact NumText.mk E.out hb1

theorem implFireFault_any (A : Option Addr) (n c : Nat) (xs : List HeatRule) (D : Option Addr) (m d : Nat) (ds : List Int) (w : World) (hA : HeatRuleS w A n xs) (hD : Ints w D m ds) :
    Calls Tryz.prog 11 #[.slice A n c, .slice D m d] w (NumText (fireF xs ds) w) := by
  rcases Bool.eq_false_or_eq_true (rulesOk xs) with ok | ok
  · rcases Bool.eq_false_or_eq_true (firB ds) with fir | fir
    · have E := Lib.hid (show fireF xs ds = ((ffF xs ds).1, (ffF xs ds).2, 0) by rw [fireF, if_pos ok, if_pos fir])
      have OK := Lib.hid ok; have FI := Lib.hid fir; clear ok fir
      go_enter Tryz.func11, Tryz.ntmps11
      go_wp2_with fail
      refine (asB (implValidHeatRules_any _ _ _ xs _ hA) OK.out).mono ?_; rintro e w1 ⟨rfl, hb1⟩
      go_wp2_with fail
      refine (asB (isFiring_any _ _ _ ds _ (hD.below hb1)) FI.out).mono ?_; rintro e w2 ⟨rfl, hb2⟩
      go_wp2_with fail
      refine (fireFault_any _ _ _ _ _ _ xs ds _ (hA.below (bel_tr hb1 hb2)) (hD.below (bel_tr hb1 hb2)) OK.out FI.out).mono ?_; rintro e w3 ⟨rfl, hb3⟩
      go_wp2_with fail
      go_ret3
      exact NumText.mk E.out (bel_tr (bel_tr hb1 hb2) hb3)
    · have E := Lib.hid (show fireF xs ds = (0, ⟨#[]⟩, 2) by rw [fireF, if_pos ok, fir]; rfl)
      have OK := Lib.hid ok; have FI := Lib.hid fir; clear ok fir
      go_enter Tryz.func11, Tryz.ntmps11
      go_wp2_with fail
      refine (asB (implValidHeatRules_any _ _ _ xs _ hA) OK.out).mono ?_; rintro e w1 ⟨rfl, hb1⟩
      go_wp2_with fail
      refine (asB (isFiring_any _ _ _ ds _ (hD.below hb1)) FI.out).mono ?_; rintro e w2 ⟨rfl, hb2⟩
      go_wp2_with fail
      go_ret3
      exact NumText.mk E.out (bel_tr hb1 hb2)
  · have E := Lib.hid (show fireF xs ds = (0, ⟨#[]⟩, 1) by rw [fireF, ok]; rfl)
    have OK := Lib.hid ok; clear ok
    go_enter Tryz.func11, Tryz.ntmps11
    go_wp2_with fail
    refine (asB (implValidHeatRules_any _ _ _ xs _ hA) OK.out).mono ?_; rintro e w1 ⟨rfl, hb1⟩
    go_wp2_with fail
    go_ret3
    exact NumText.mk E.out hb1
end Go.Proofs.YtoghgbbepjpelaaGreatDoor
