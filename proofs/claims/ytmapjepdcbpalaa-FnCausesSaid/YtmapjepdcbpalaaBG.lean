/- The contract of the program's FewestCauses. -/
import Derived.Test.YtmapjepdcbpalaaBG0
namespace Go.Proofs.Ytmapjepdcbpalaa
open Go.RowKit
set_option linter.unusedVariables false

set_option maxRecDepth 20000 in
set_option maxHeartbeats 16000000 in
theorem implFewestCauses_any (A : Option Addr) (n c : Nat) (xs : List Batch) (w : World) (hA : BatchS w A n xs) :
    Calls Try.prog 20 #[.slice A n c] w (CauseC (fcL xs) (fcC xs) w) := by
  have hn := hA.bound
  have L := Lib.hid hA.len
  obtain ⟨z, hzc⟩ : ∃ z, codeB xs = z := ⟨_, rfl⟩
  have hcode : ∀ W, BatchS W A n xs → Calls Try.prog 52 #[.slice A n c] W (fun e w' => e = .returned (.int .i64 z) ∧ Below W.heap.size W w') := fun W hW => by subst hzc; exact implBadCode_any A n c xs W hW
  by_cases h0 : z = 0
  · subst h0
    obtain ⟨hok, hany⟩ := codeB_ok hzc
    have hpos : 0 < n := by
      rcases Nat.eq_zero_or_pos n with z | z
      · have := hA.len; rw [z] at this
        rw [List.length_eq_zero_iff.1 this] at hany; cases hany
      · exact z
    have hb40 := (bads_ok hok).2
    have FC := Lib.hid (show fcC xs = (if (posL xs).length ≤ 16 then (if exB (badsOf xs) (posL xs) = true then 0 else 9) else 5) by rw [fcC, if_pos hzc])
    have FL := Lib.hid (show fcC xs = 0 → fcL xs = bestL (badsOf xs) (posL xs) from fun h => by rw [fcL, if_pos h])
    have PO := Lib.hid (show ∀ c ∈ posL xs, causeB c = true from fun c hc => inL_ok (List.mem_filter.1 hc).1)
    have hpo := fun W hW => possibleCauses_any A n c xs W hW hzc
    have hdiv : ∀ W, BatchS W A n xs → Calls Try.prog 54 #[.slice A n c] W (fun e w' => ∃ q cap q2 cap2, e = .returned (.tuple #[.slice (some ⟨q, 0, none⟩) (badsOf xs).length cap, .slice (some ⟨q2, 0, none⟩) (goodsOf xs).length cap2]) ∧ RowFBatch w' q (badsOf xs).length (nt (badsOf xs)) ∧ RowFBatch w' q2 (goodsOf xs).length (nt (goodsOf xs)) ∧ Below W.heap.size W w') := fun W hW => divided_any A n c xs W hW hpos
    have HA := Lib.hid hA
    clear hok hany hzc hA
    obtain ⟨p, hp⟩ : ∃ p, posL xs = p := ⟨_, rfl⟩
    rw [hp] at FC FL PO hpo
    clear hp
    obtain ⟨bs, hbs⟩ : ∃ bs, badsOf xs = bs := ⟨_, rfl⟩
    rw [hbs] at FC FL hdiv hb40
    clear hbs
    obtain ⟨nb, hnb⟩ : ∃ nb, bs.length = nb := ⟨_, rfl⟩
    have NB := Lib.hid hnb
    rw [hnb] at hdiv hb40
    clear hnb
    obtain ⟨np, hnp⟩ : ∃ np, p.length = np := ⟨_, rfl⟩
    have PL := Lib.hid hnp
    have hpo' : ∀ W, BatchS W A n xs → Calls Try.prog 53 #[.slice A n c] W (fun e w' => ∃ q cap, e = .returned (.slice (some ⟨q, 0, none⟩) np cap) ∧ W.heap.size ≤ q ∧ np ≤ cap ∧ RowFCause w' q np (nt p) ∧ Below W.heap.size W w') := fun W hW => by have := hpo W hW; unfold OwnRC at this; rw [hnp] at this; exact this
    clear hnp hpo
    go_enter Try.func20, Try.ntmps20
    go_wp2_with fail
    (refine (hcode _ (HA.out.below (by first | (go_grown; done) | (go_split_ands; assumption)))).mono ?_; rintro e w1 ⟨rfl, hb1⟩; obtain ⟨hc1, hf1⟩ := bcell hb1; have hz1 := hb1.size; (try simp only [World.size_alloc] at hz1); (try simp only [World.size_setCell] at hz1); (try simp only [World.size_drew] at hz1); (try have L1 : w.heap.size < w1.heap.size := by omega); have B1 : Below w.heap.size w w1 := bel_tr (by first | (go_grown; done) | (go_split_ands; assumption)) hb1)
    clear hc1 hf1
    go_wp2_with fail
    refine (hpo' _ (HA.out.below B1)).mono ?_; rintro e w2 ⟨gp, capp, rfl, hgp, hcapp, hR2, hb2⟩
    have B2 : Below w.heap.size w w2 := bel_tr B1 hb2
    have HR2 := Lib.hid hR2
    clear hR2 hcode hpo'
    have hz2' := hb2.size
    by_cases h16 : np ≤ 16
    · rw [PL.out, if_pos h16] at FC
      go_wp2_with fail
      refine (hdiv _ (HA.out.below B2)).mono ?_; rintro e w3 ⟨q3, cap3, q4, cap4, rfl, hR3, hR4, hb3⟩
      have B3 : Below w.heap.size w w3 := bel_tr B2 hb3
      have HR3 := Lib.hid (HR2.out.below hb3)
      have HB3 := Lib.hid (hR3.S NB.out (by omega))
      have hz3' := hb3.size
      clear hR3 hR4 hdiv HR2
      obtain ⟨hN1, hN2⟩ := pow_le16 h16
      have FB := Lib.hid (fun best => Found.best (bs := bs) (p := p) (best := best))
      have FN := Lib.hid (fun best => Found.none (bs := bs) (p := p) (best := best))
      rw [PL.out] at FB FN
      obtain ⟨N, hN⟩ : ∃ N : Nat, 2 ^ np = N := ⟨_, rfl⟩
      have hNi : (2 : Int) ^ np = (N : Int) := by rw [← hN]; norm_cast
      rw [hN] at hN1 hN2 FB FN
      clear hN
      go_wp2_with fail
      go_loopw [34, 8, 9] (fun u v f wr => ∃ (k : Nat) (fb : Bool) (bl : List Cause) (g8 cap8 : Nat), k ≤ N ∧ u = .int .i64 k ∧ v = .slice (some ⟨g8, 0, none⟩) bl.length cap8 ∧ f = .bool fb ∧ Found bs p k fb bl ∧ RowFCause wr g8 bl.length (nt bl) ∧ w.heap.size ≤ g8 ∧ Below w3.heap.size w3 wr) (fun u _ _ _ => N - (intOf u).toNat)
      case atStart =>
        obtain ⟨g, cap, e0, hg, hcap, hR⟩ := (OwnC.made' (base := w3.heap.size) (w := w3) (Nat.le_refl _) rfl).row
        exact ⟨0, false, [], _, _, Nat.zero_le _, rfl, e0, rfl, Found.start bs p, hR, by have := B3.size; omega, (Below.refl _ _).alloc (Nat.le_refl _) _⟩
      case round =>
        obtain ⟨k, fb, bl, g8, cap8, hk, rfl, rfl, rfl, hF, hR8, h8g, hB⟩ := hrel
        have FD := Lib.hid hF; have HR8 := Lib.hid hR8; clear hF hR8
        obtain ⟨nbl, hnbl⟩ : ∃ nbl, bl.length = nbl := ⟨_, rfl⟩
        have BLN := Lib.hid hnbl
        have hbl16 : fb = true → nbl ≤ 16 := fun h => by
          have := (FD.out.1 h).1.length_le
          rw [PL.out, hnbl] at this; omega
        rw [hnbl] at HR8 ⊢
        clear hnbl
        obtain ⟨wo, rfl⟩ : ∃ wo : World, wo = wr := ⟨_, rfl⟩
        have hz := hB.size
        by_cases hlt : k < N
        · obtain ⟨X, hX⟩ : ∃ X, X = wo.heap.size + 1 := ⟨_, rfl⟩
          have hO0 : OwnC (wo.alloc (.cells #[] 38)) wo.heap.size (.slice (some ⟨wo.heap.size, 0, none⟩) 0 0) [] := OwnC.made' (Nat.le_refl _) rfl
          have HO0 := Lib.hid hO0; clear hO0
          have KN := Lib.hid hX
          clear hX
          go_wp2
          go_loopw [40] (fun u wr => ∃ (q : Nat) (v : Value), q ≤ np ∧ u = .int .i64 q ∧ wr.cell? ⟨wo.heap.size + 1, 0, none⟩ = some v ∧ wr.frozen? ⟨wo.heap.size + 1, 0, none⟩ = false ∧ wo.heap.size + 1 < wr.heap.size ∧ OwnCX wr wo.heap.size (wo.heap.size + 1) v (subK p k q) ∧ Below wo.heap.size wo wr) (fun u _ => np - (intOf u).toNat)
          case atStart => exact ⟨0, _, Nat.zero_le _, rfl, by go_simp, by go_simp, by simp, ⟨HO0.out.below ((Below.refl _ _).alloc (Nat.le_refl _) _), by simp [Value.ownBlock]⟩, by go_grown⟩
          case round =>
            obtain ⟨q, v, hq, rfl, bx, bf, hXl, hOX, hI⟩ := hrel
            have HOX := Lib.hid hOX; clear hOX
            obtain ⟨wi, rfl⟩ : ∃ wi : World, wi = wr := ⟨_, rfl⟩
            have hIw3 : Below w3.heap.size w3 wi := hB.trans (hI.mono hz)
            have hwi := hIw3.size
            obtain ⟨X, hX⟩ : ∃ X, wo.heap.size + 1 = X := ⟨_, rfl⟩
            rw [hX] at bx bf hXl HOX
            by_cases hqt : q < np
            · obtain ⟨b2, off2, e2, hb2', hc2⟩ := ((HR3.out.S PL.out (by omega)).below hIw3).cell (by omega)
              simp only [Option.some.injEq, Addr.mk.injEq, and_true] at e2
              obtain ⟨rfl, rfl⟩ := e2
              obtain ⟨hr0, hr1⟩ := hc2 q hqt
              clear hc2
              rw [Nat.zero_add] at hr0 hr1
              have HL := Lib.hid (show (subK p k q).length ≤ 1000000 by have := subK_len p k q; omega)
              obtain ⟨D, hD⟩ : ∃ D : Nat, k / 2 ^ q = D := ⟨_, rfl⟩
              have hDk : D ≤ k := by rw [← hD]; exact Nat.div_le_self _ _
              have hDi : (k : Int) / 2 ^ q = (D : Int) := by rw [← hD]; norm_cast
              have ea := and_one D (by omega)
              have hmod : D % 2 = 0 ∨ D % 2 = 1 := by omega
              rcases hmod with hm | hm
              · have SK := Lib.hid (subK_no (p := p) (m := k) (k := q) (by rw [bitB, hD, hm]; rfl))
                rw [hm] at ea
                clear hD hm
                go_wp2
                go_roundw
                case rel =>
                  subst hX
                  exact ⟨q + 1, v, by omega, by go_num, cellB bx hXl (by first | (go_grown; done) | (go_split_ands; assumption)), frozB bf hXl (by first | (go_grown; done) | (go_split_ands; assumption)), by simp; omega, by rw [SK.out]; exact HOX.out.below (by first | (go_grown; done) | (go_split_ands; assumption)), bel_tr hI (by first | (go_grown; done) | (go_split_ands; assumption))⟩
                case measure => simp [intOf]; omega
              · have SK := Lib.hid (subK_yes (p := p) (m := k) (k := q) (by rw [bitB, hD, hm]; rfl))
                rw [hm] at ea
                clear hD hm
                go_wp2_with (at_builtin; refine wpList_appC1X _ rfl (.tmp 51) (.tmp 53) rfl wo.heap.size X _ _ (HOX.out.below (by first | (go_grown; done) | (go_split_ands; assumption))) rfl _ _ _ rfl (by simp) HL.out (by simp; omega) (by simp; omega) ?_; intro v4 w4 hO4 hk4 hs4 hc4 hf4; have bx4 := hc4.trans (cellB bx hXl (by first | (go_grown; done) | (go_split_ands; assumption))); have bf4 := hf4.trans (frozB bf hXl (by first | (go_grown; done) | (go_split_ands; assumption))); have hk5 := (hk4 (Nat.le_refl _) (bel_tr hI (by first | (go_grown; done) | (go_split_ands; assumption)))); (try simp only [World.size_alloc] at hs4); clear hk4 hc4 hf4; have HO5 := Lib.hid hO4; obtain ⟨⟨g4, cap4, hv4, _, _⟩, _⟩ := hO4; subst hv4)
                subst hX
                go_roundw
                case rel =>
                  exact ⟨q + 1, _, by omega, by go_num, World.cell?_setCell_same _ _ _ bx4, by rw [World.frozen?_setCell]; exact bf4, by simp [World.setCell]; omega, by rw [SK.out]; have h5 := HO5.out.set (Value.slice (some ⟨g4, 0, none⟩) ((subK p k q).length + 1) cap4); rw [List.length_append] at h5; exact h5, hk5.setCell (Nat.le_succ _) _⟩
                case measure => simp [intOf]; omega
            · obtain rfl : np = q := by omega
              obtain ⟨go, capo, rfl, hgo, hcapo, hRo⟩ := HOX.out.1.row
              obtain ⟨ol, hol⟩ : ∃ ol, (subK p k np).length = ol := ⟨_, rfl⟩
              have OLN := Lib.hid hol
              have hol16 : ol ≤ 16 := by have := subK_len p k np; omega
              rw [hol] at hRo bx hcapo
              have HOW := Lib.hid hRo
              clear hol hRo HOX
              have HB8N := Lib.hid (HR8.out.below hI)
              have HBSX := Lib.hid (HB3.out.below hIw3)
              have HWI := Lib.hid hIw3
              have hgo3 : w.heap.size ≤ go := by have := B3.size; omega
              have HPRED := Lib.hid (show ∀ W, Below wi.heap.size wi W → PredB 58 #[] #[.pointer (some ⟨X, 0, none⟩)] Batch.enc (fun b => !(subK p k np).any (hasB b)) bs W from fun W T W' x hx hW =>
                few1_any x X _ ol capo (subK p k np) W' ((HOW.out.S OLN.out (by omega)).below (bel_tr T hW)) (by have := subK_pos (m := k) PO.out; rw [PL.out] at this; exact this) (cellB bx hXl (bel_tr T hW)) (Nat.lt_of_lt_of_le hXl (bel_tr T hW).size))
              clear hI hIw3
              obtain ⟨cv, hcv⟩ : ∃ cv, cmpL (subK p k np) bl = cv := ⟨_, rfl⟩
              have CM := Lib.hid hcv
              clear hcv
              cases fb with
              | false =>
                obtain ⟨ex, hex⟩ : ∃ ex, exB bs (subK p k np) = ex := ⟨_, rfl⟩
                have AE := Lib.hid (any_ex bs (subK p k np))
                have EX := Lib.hid hex; clear hex
                go_wp2_with fail
                refine (asB (conFBatch_any _ 58 _ _ eg_few1 _ _ _ bs _ (HBSX.out) (HPRED.out _ (Below.refl _ _))) (by rw [AE.out, EX.out])).mono ?_; rintro e w7 ⟨rfl, hb7⟩
                have T7 : Below wi.heap.size wi w7 := hb7
                have hz7 := T7.size
                have HW7 := Lib.hid (HWI.out.trans (T7.mono hwi))
                have bx7 := (T7.cell (p := ⟨X, 0, none⟩) hXl).trans bx
                cases ex with
                | false =>
                  have Y := Lib.hid (FD.out.no (by rw [PL.out]; exact EX.out))
                  have H8 := Lib.hid (HB8N.out.below T7)
                  go_wp2_with fail
                  go_roundw
                  case rel => exact ⟨k + 1, false, bl, g8, cap8, by omega, by go_num, by rw [BLN.out], rfl, Y.out, by rw [BLN.out]; exact H8.out, h8g, HW7.out⟩
                  case measure => simp [intOf]; omega
                | true =>
                  have Y := Lib.hid (FD.out.yes (by rw [PL.out]; exact EX.out) (fun h => by cases h))
                  rw [PL.out] at Y
                  have H8 := Lib.hid (HOW.out.below T7)
                  go_wp2_with fail
                  go_roundw
                  case rel => exact ⟨k + 1, true, subK p k np, go, capo, by omega, by go_num, by rw [OLN.out], rfl, Y.out, by rw [OLN.out]; exact H8.out, by omega, HW7.out⟩
                  case measure => simp [intOf]; omega
              | true =>
                have hbl16' := hbl16 rfl
                by_cases c1 : nbl < ol
                · have c1' : (nbl : Int) < (ol : Int) := by omega
                  have Y := Lib.hid (FD.out.pass (show passB (subK p k p.length) bl = true by rw [PL.out, passB, OLN.out, BLN.out]; rw [decide_eq_true c1]; rfl))
                  go_wp2_with fail
                  go_roundw
                  case rel => exact ⟨k + 1, true, bl, g8, cap8, by omega, by go_num, by rw [BLN.out], rfl, Y.out, by rw [BLN.out]; exact HB8N.out, h8g, HWI.out⟩
                  case measure => simp [intOf]; omega
                · have c1' : ¬ (nbl : Int) < (ol : Int) := by omega
                  by_cases c2 : ol = nbl
                  · subst c2
                    clear c1'
                    have c1' : ¬ (ol : Int) < (ol : Int) := by omega
                    have c2' : ((ol : Int) == (ol : Int)) = true := by simp
                    by_cases c3 : 0 < cv
                    · skip
                      have Y := Lib.hid (FD.out.pass (show passB (subK p k p.length) bl = true by rw [PL.out, passB, OLN.out, BLN.out, CM.out]; simp [c3]))
                      go_wp2_with fail
                      refine (compareF_any _ _ _ (subK p k np) _ _ _ bl _ (HOW.out.S OLN.out (by omega)) (HB8N.out.S BLN.out (by omega))).mono ?_; rw [CM.out]; rintro e w6 ⟨rfl, T6⟩
                      have hz6 := T6.size
                      have HW6 := Lib.hid (HWI.out.trans (T6.mono hwi))
                      have H86 := Lib.hid (HB8N.out.below T6)
                      go_wp2_with fail
                      go_roundw
                      case rel => exact ⟨k + 1, true, bl, g8, cap8, by omega, by go_num, by rw [BLN.out], rfl, Y.out, by rw [BLN.out]; exact H86.out, h8g, HW6.out⟩
                      case measure => simp [intOf]; omega
                    · skip
                      obtain ⟨ex, hex⟩ : ∃ ex, exB bs (subK p k np) = ex := ⟨_, rfl⟩
                      have AE := Lib.hid (any_ex bs (subK p k np))
                      have EX := Lib.hid hex; clear hex
                      go_wp2_with fail
                      refine (compareF_any _ _ _ (subK p k np) _ _ _ bl _ (HOW.out.S OLN.out (by omega)) (HB8N.out.S BLN.out (by omega))).mono ?_; rw [CM.out]; rintro e w6 ⟨rfl, T6⟩
                      have hz6 := T6.size
                      go_wp2_with fail
                      refine (asB (conFBatch_any _ 58 _ _ eg_few1 _ _ _ bs _ (HBSX.out.below T6) (HPRED.out _ T6)) (by rw [AE.out, EX.out])).mono ?_; rintro e w7 ⟨rfl, hb7⟩
                      have T7 : Below wi.heap.size wi w7 := bel_tr T6 hb7
                      have hz7 := T7.size
                      have HW7 := Lib.hid (HWI.out.trans (T7.mono hwi))
                      have bx7 := (T7.cell (p := ⟨X, 0, none⟩) hXl).trans bx
                      cases ex with
                      | false =>
                        have Y := Lib.hid (FD.out.no (by rw [PL.out]; exact EX.out))
                        have H8 := Lib.hid (HB8N.out.below T7)
                        go_wp2_with fail
                        go_roundw
                        case rel => exact ⟨k + 1, true, bl, g8, cap8, by omega, by go_num, by rw [BLN.out], rfl, Y.out, by rw [BLN.out]; exact H8.out, h8g, HW7.out⟩
                        case measure => simp [intOf]; omega
                      | true =>
                        have Y := Lib.hid (FD.out.yes (by rw [PL.out]; exact EX.out) (fun _ => by rw [PL.out, passB, OLN.out, BLN.out, CM.out]; simp [c1, c3]))
                        rw [PL.out] at Y
                        have H8 := Lib.hid (HOW.out.below T7)
                        go_wp2_with fail
                        go_roundw
                        case rel => exact ⟨k + 1, true, subK p k np, go, capo, by omega, by go_num, by rw [OLN.out], rfl, Y.out, by rw [OLN.out]; exact H8.out, by omega, HW7.out⟩
                        case measure => simp [intOf]; omega
                  · have c2' : ((ol : Int) == (nbl : Int)) = false := by rw [beq_eq_false_iff_ne]; omega
                    obtain ⟨ex, hex⟩ : ∃ ex, exB bs (subK p k np) = ex := ⟨_, rfl⟩
                    have AE := Lib.hid (any_ex bs (subK p k np))
                    have EX := Lib.hid hex; clear hex
                    go_wp2_with fail
                    refine (asB (conFBatch_any _ 58 _ _ eg_few1 _ _ _ bs _ (HBSX.out) (HPRED.out _ (Below.refl _ _))) (by rw [AE.out, EX.out])).mono ?_; rintro e w7 ⟨rfl, hb7⟩
                    have T7 : Below wi.heap.size wi w7 := hb7
                    have hz7 := T7.size
                    have HW7 := Lib.hid (HWI.out.trans (T7.mono hwi))
                    have bx7 := (T7.cell (p := ⟨X, 0, none⟩) hXl).trans bx
                    cases ex with
                    | false =>
                      have Y := Lib.hid (FD.out.no (by rw [PL.out]; exact EX.out))
                      have H8 := Lib.hid (HB8N.out.below T7)
                      go_wp2_with fail
                      go_roundw
                      case rel => exact ⟨k + 1, true, bl, g8, cap8, by omega, by go_num, by rw [BLN.out], rfl, Y.out, by rw [BLN.out]; exact H8.out, h8g, HW7.out⟩
                      case measure => simp [intOf]; omega
                    | true =>
                      have Y := Lib.hid (FD.out.yes (by rw [PL.out]; exact EX.out) (fun _ => by rw [PL.out, passB, OLN.out, BLN.out, CM.out]; simp [c1, c2]))
                      rw [PL.out] at Y
                      have H8 := Lib.hid (HOW.out.below T7)
                      go_wp2_with fail
                      go_roundw
                      case rel => exact ⟨k + 1, true, subK p k np, go, capo, by omega, by go_num, by rw [OLN.out], rfl, Y.out, by rw [OLN.out]; exact H8.out, by omega, HW7.out⟩
                      case measure => simp [intOf]; omega
        · obtain rfl : N = k := by omega
          cases fb with
          | false =>
            have EX := Lib.hid (FN.out bl FD.out)
            have R := Lib.hid (show fcC xs = 9 by rw [FC.out, EX.out]; rfl)
            go_wp2
            go_ret2
            exact CauseC.nil' (fcL_bad R.out (by omega)) R.out (B3.trans (hB.mono B3.size))
          | true =>
            have BE := Lib.hid (FB.out bl FD.out)
            have R := Lib.hid (show fcC xs = 0 by
              rw [FC.out, if_pos]
              exact exB_mono BE.out.2.1 (fun c hc => BE.out.1.subset hc))
            have S := Lib.hid (show fcL xs = bl by rw [FL.out R.out]; exact bestL_eq BE.out)
            have hbl := hbl16 rfl
            go_wp2
            go_ret2
            exact CauseC.row' HR8.out S.out R.out BLN.out (by omega) h8g (B3.trans (hB.mono B3.size))
    · have R := Lib.hid (show fcC xs = 5 by rw [FC.out, PL.out, if_neg h16])
      have h16' : (16 : Int) < (np : Int) := by omega
      go_wp2
      go_ret2
      exact CauseC.nil' (fcL_bad R.out (by omega)) R.out B2
  · have R := Lib.hid (show fcC xs = z by rw [fcC, hzc, if_neg h0])
    have E := Lib.hid (fcL_bad R.out h0)
    have h01 : (z == 0) = false := by rw [beq_eq_false_iff_ne]; exact h0
    have HA := Lib.hid hA
    clear hzc hA
    go_enter Try.func20, Try.ntmps20
    go_wp2_with fail
    (refine (hcode _ (HA.out.below (by first | (go_grown; done) | (go_split_ands; assumption)))).mono ?_; rintro e w1 ⟨rfl, hb1⟩; obtain ⟨hc1, hf1⟩ := bcell hb1; have hz1 := hb1.size; (try simp only [World.size_alloc] at hz1); (try simp only [World.size_setCell] at hz1); (try simp only [World.size_drew] at hz1); (try have L1 : w.heap.size < w1.heap.size := by omega); have B1 : Below w.heap.size w w1 := bel_tr (by first | (go_grown; done) | (go_split_ands; assumption)) hb1)
    go_wp2_with fail
    go_ret2
    exact CauseC.nil' E.out R.out B1
end Go.Proofs.Ytmapjepdcbpalaa
