/- The contract of the program's BestTest. -/
import Derived.Test.YtmapjepdcbpalaaGreatDoorBE
namespace Go.Proofs.YtmapjepdcbpalaaGreatDoor
open Go.RowKit
set_option linter.unusedVariables false

theorem codeB_cases {xs : List Batch} (h : batchesOk xs = true) : (codeB xs = 0 ∧ xs.any (·.Bad) = true) ∨ (codeB xs = 3 ∧ ¬ xs.any (·.Bad) = true) := by
  by_cases g : xs.any (·.Bad) = true
  · exact .inl ⟨by rw [codeB, if_pos h, if_pos g], g⟩
  · exact .inr ⟨by rw [codeB, if_pos h, if_neg g], g⟩
set_option maxHeartbeats 8000000 in
theorem implBestTest_any (A : Option Addr) (n c : Nat) (xs : List Batch) (B : Option Addr) (m d : Nat) (ts : List Batch) (w : World) (hA : BatchS w A n xs) (hB : BatchS w B m ts) :
    Calls Tryz.prog 11 #[.slice A n c, .slice B m d] w (BtC xs ts w) := by
  have hn := hA.bound
  have hm := hB.bound
  have L := Lib.hid hA.len
  have M := Lib.hid hB.len
  rcases Bool.eq_false_or_eq_true (batchesOk xs) with g | g
  · rcases Bool.eq_false_or_eq_true (batchesOk ts) with g1 | g1
    · rcases codeB_cases g with ⟨hz, hany⟩ | ⟨hz, hany⟩
      · have hcode : ∀ W, BatchS W A n xs → Calls Tryz.prog 24 #[.slice A n c] W (fun e w' => e = .returned (.int .i64 0) ∧ Below W.heap.size W w') := fun W hW => by have := implBadCode_any A n c xs W hW; unfold IsCode at this; rw [hz] at this; exact this
        rcases Nat.eq_zero_or_pos m with z | z
        · have R := Lib.hid (show btC xs ts = 3 by
            rw [btC, if_pos g, if_pos g1, if_pos]
            exact List.length_eq_zero_iff.1 (by rw [M.out, z]))
          subst z
          have G := Lib.hid g; have G1 := Lib.hid g1; clear g g1 hz hany
          go_enter Tryz.func11, Tryz.ntmps11
          go_wp2_with fail
          (refine (asB (implValidBatches_any _ _ _ xs _ (hA.below (by first | (go_grown; done) | (go_split_ands; assumption)))) G.out).mono ?_; rintro e w1 ⟨rfl, hb1⟩; obtain ⟨hc1, hf1⟩ := bcell hb1; have hz1 := hb1.size; (try simp only [World.size_alloc] at hz1); (try simp only [World.size_setCell] at hz1); (try simp only [World.size_drew] at hz1); (try have L1 : w.heap.size < w1.heap.size := by omega); have B1 : Below w.heap.size w w1 := bel_tr (by first | (go_grown; done) | (go_split_ands; assumption)) hb1)
          go_wp2_with fail
          (refine (asB (implValidBatches_any _ _ _ ts _ (hB.below (by first | (go_grown; done) | (go_split_ands; assumption)))) G1.out).mono ?_; rintro e w2 ⟨rfl, hb2⟩; obtain ⟨hc2, hf2⟩ := bcell hb2; have hz2 := hb2.size; (try simp only [World.size_alloc] at hz2); (try simp only [World.size_setCell] at hz2); (try simp only [World.size_drew] at hz2); (try have L2 : w.heap.size < w2.heap.size := by omega); have B2 : Below w.heap.size w w2 := bel_tr (by first | (go_grown; done) | (go_split_ands; assumption)) hb2)
          go_wp2_with fail
          (refine (hcode _ (hA.below (by first | (go_grown; done) | (go_split_ands; assumption)))).mono ?_; rintro e w3 ⟨rfl, hb3⟩; obtain ⟨hc3, hf3⟩ := bcell hb3; have hz3 := hb3.size; (try simp only [World.size_alloc] at hz3); (try simp only [World.size_setCell] at hz3); (try simp only [World.size_drew] at hz3); (try have L3 : w.heap.size < w3.heap.size := by omega); have B3 : Below w.heap.size w w3 := bel_tr (by first | (go_grown; done) | (go_split_ands; assumption)) hb3)
          go_wp2_with fail
          go_ret2
          exact BtC.bad R.out (by omega) B3
        · have hts : ts ≠ [] := by rintro rfl; have := M.out; simp at this; omega
          have hz0 : ¬ (m : Int) = 0 := by omega
          have hz1 : ((m : Int) == 0) = false := by rw [beq_eq_false_iff_ne]; omega
          have R := Lib.hid (show btC xs ts = 0 by rw [btC, if_pos g, if_pos g1, if_neg hts, if_pos hany])
          have E := Lib.hid (show btV xs ts = (minAt (worstN ts (posL xs)) m : Nat) by rw [btV, R.out, if_pos rfl, M.out])
          have G := Lib.hid g; have G1 := Lib.hid g1; clear g g1 hts hany
          have hp60 : (posL xs).length ≤ 60 := Nat.le_trans (List.length_filter_le _ _) (inL_len _)
          have hpos := fun W hW => possibleCauses_any A n c xs W hW hz
          have PO := Lib.hid (show ∀ c ∈ posL xs, causeB c = true from fun c hc => inL_ok (List.mem_filter.1 hc).1)
          clear hz
          obtain ⟨p, hp⟩ : ∃ p, posL xs = p := ⟨_, rfl⟩
          rw [hp] at E hp60 hpos PO
          clear hp
          go_enter Tryz.func11, Tryz.ntmps11
          go_wp2_with fail
          (refine (asB (implValidBatches_any _ _ _ xs _ (hA.below (by first | (go_grown; done) | (go_split_ands; assumption)))) G.out).mono ?_; rintro e w1 ⟨rfl, hb1⟩; obtain ⟨hc1, hf1⟩ := bcell hb1; have hz1 := hb1.size; (try simp only [World.size_alloc] at hz1); (try simp only [World.size_setCell] at hz1); (try simp only [World.size_drew] at hz1); (try have L1 : w.heap.size < w1.heap.size := by omega); have B1 : Below w.heap.size w w1 := bel_tr (by first | (go_grown; done) | (go_split_ands; assumption)) hb1)
          go_wp2_with fail
          (refine (asB (implValidBatches_any _ _ _ ts _ (hB.below (by first | (go_grown; done) | (go_split_ands; assumption)))) G1.out).mono ?_; rintro e w2 ⟨rfl, hb2⟩; obtain ⟨hc2, hf2⟩ := bcell hb2; have hz2 := hb2.size; (try simp only [World.size_alloc] at hz2); (try simp only [World.size_setCell] at hz2); (try simp only [World.size_drew] at hz2); (try have L2 : w.heap.size < w2.heap.size := by omega); have B2 : Below w.heap.size w w2 := bel_tr (by first | (go_grown; done) | (go_split_ands; assumption)) hb2)
          go_wp2_with fail
          (refine (hcode _ (hA.below (by first | (go_grown; done) | (go_split_ands; assumption)))).mono ?_; rintro e w3 ⟨rfl, hb3⟩; obtain ⟨hc3, hf3⟩ := bcell hb3; have hz3 := hb3.size; (try simp only [World.size_alloc] at hz3); (try simp only [World.size_setCell] at hz3); (try simp only [World.size_drew] at hz3); (try have L3 : w.heap.size < w3.heap.size := by omega); have B3 : Below w.heap.size w w3 := bel_tr (by first | (go_grown; done) | (go_split_ands; assumption)) hb3)
          go_wp2_with fail
          refine (hpos _ (hA.below B3)).mono ?_; rintro e w4 ⟨q4, cp, rfl, hq4, hcap4, hR4, hb4⟩
          have B4 : Below w.heap.size w w4 := bel_tr B3 hb4
          have HS4 := Lib.hid (hR4.S rfl (by omega))
          clear hR4 hpos hcode hb1 hb2 hb3 hb4 hc1 hf1 hc2 hf2 hc3 hf3
          obtain ⟨np, hnp⟩ : ∃ np, p.length = np := ⟨_, rfl⟩
          have PL := Lib.hid hnp
          rw [hnp] at hp60 HS4 hcap4 ⊢
          clear hnp
          obtain ⟨f, hf⟩ : ∃ f, worstN ts p = f := ⟨_, rfl⟩
          have HF := Lib.hid hf
          rw [hf] at E
          clear hf
          go_wp2_with fail
          go_loopw [35, 7, 8] (fun i b l wr => ∃ (k : Nat) (bv lv : Int), k ≤ m ∧ i = .int .i64 k ∧ b = .int .i64 bv ∧ l = .int .i64 lv ∧ BestI f k bv lv ∧ Below w4.heap.size w4 wr) (fun i _ _ _ => m - (intOf i).toNat)
          case atStart => exact ⟨0, 0, -1, Nat.zero_le _, rfl, rfl, rfl, .inl ⟨rfl, rfl, rfl⟩, Below.refl _ _⟩
          case round =>
            obtain ⟨k, bv, lv, hk, rfl, rfl, rfl, hbs, hI⟩ := hrel
            have HBS := Lib.hid hbs; clear hbs
            obtain ⟨wo, rfl⟩ : ∃ wo : World, wo = wr := ⟨_, rfl⟩
            have hIw : Below w.heap.size w wo := B4.trans (hI.mono B4.size)
            by_cases hlt : k < m
            · have FK := Lib.hid (show f k = max (hasN p (nt ts k) np) (np - hasN p (nt ts k) np) by rw [← HF.out, worstN, PL.out])
              obtain ⟨b, off, rfl, hb, hc⟩ := (hB.below hIw).cell (by omega)
              obtain ⟨hq0, hq1, hq2, hq3⟩ := hc k hlt
              clear hc
              go_wp2
              clear hq0 hq1 hq2 hq3
              go_loopw [42, 11] (fun j v wr => ∃ (q s : Nat), q ≤ np ∧ j = .int .i64 q ∧ v = .int .i64 s ∧ s = hasN p (nt ts k) q ∧ wr.cell? ⟨wo.heap.size, 0, none⟩ = some (.int .i64 (nt ts k).Clay) ∧ wr.cell? ⟨wo.heap.size, 1, none⟩ = some (.int .i64 (nt ts k).Mould) ∧ wr.cell? ⟨wo.heap.size, 2, none⟩ = some (.int .i64 (nt ts k).Chamber) ∧ wr.cell? ⟨wo.heap.size, 3, none⟩ = some (.bool (nt ts k).Bad) ∧ wo.heap.size < wr.heap.size ∧ Below wo.heap.size wo wr) (fun j _ _ => np - (intOf j).toNat)
              case atStart => exact ⟨0, 0, Nat.zero_le _, rfl, rfl, rfl, by go_simp, by go_simp, by go_simp, by go_simp, by simp, by go_grown⟩
              case round =>
                obtain ⟨q, s, hq, rfl, rfl, hs, v0, v1, v2, v3, hlw, hJ⟩ := hrel
                have hsq : s ≤ q := by rw [hs]; exact hasN_le _ _ _
                have S := Lib.hid hs; clear hs
                obtain ⟨wc, rfl⟩ : ∃ wc : World, wc = wr := ⟨_, rfl⟩
                have hJw : Below w.heap.size w wc := hIw.trans (hJ.mono hIw.size)
                have hJ4 : Below w4.heap.size w4 wc := hI.trans (hJ.mono hI.size)
                by_cases hqt : q < np
                · obtain ⟨b2, off2, e2, hb2, hc2⟩ := (HS4.out.below hJ4).cell (by omega)
                  simp only [Option.some.injEq, Addr.mk.injEq, and_true] at e2
                  obtain ⟨rfl, rfl⟩ := e2
                  obtain ⟨hr0, hr1⟩ := hc2 q hqt
                  clear hc2
                  rw [Nat.zero_add] at hr0 hr1
                  have PQ := Lib.hid (PO.out (nt p q) (nt_mem (by rw [PL.out]; exact hqt)))
                  rcases Bool.eq_false_or_eq_true (hasB (nt ts k) (nt p q)) with h | h
                  · have Q := Lib.hid (hasN_yes h)
                    have H := Lib.hid h; clear h
                    go_wp2_with fail
                    refine (asB (has_any (nt ts k) (nt p q) _ PQ.out) H.out).mono ?_; rintro e w5 ⟨rfl, hb5⟩
                    have T5 : Below wc.heap.size wc w5 := bel_tr (by first | (go_grown; done) | (go_split_ands; assumption)) hb5
                    have hz5 := T5.size
                    go_wp2_with fail
                    go_roundw
                    case rel => exact ⟨q + 1, s + 1, by omega, by go_num, by go_num, by rw [Q.out, ← S.out], (T5.cell (p := ⟨wo.heap.size, 0, none⟩) hlw).trans v0, (T5.cell (p := ⟨wo.heap.size, 1, none⟩) hlw).trans v1, (T5.cell (p := ⟨wo.heap.size, 2, none⟩) hlw).trans v2, (T5.cell (p := ⟨wo.heap.size, 3, none⟩) hlw).trans v3, by omega, hJ.trans (T5.mono (by omega))⟩
                    case measure => simp [intOf]; omega
                  · have Q := Lib.hid (hasN_no h)
                    have H := Lib.hid h; clear h
                    go_wp2_with fail
                    refine (asB (has_any (nt ts k) (nt p q) _ PQ.out) H.out).mono ?_; rintro e w5 ⟨rfl, hb5⟩
                    have T5 : Below wc.heap.size wc w5 := bel_tr (by first | (go_grown; done) | (go_split_ands; assumption)) hb5
                    have hz5 := T5.size
                    go_wp2_with fail
                    go_roundw
                    case rel => exact ⟨q + 1, s, by omega, by go_num, rfl, by rw [Q.out, ← S.out], (T5.cell (p := ⟨wo.heap.size, 0, none⟩) hlw).trans v0, (T5.cell (p := ⟨wo.heap.size, 1, none⟩) hlw).trans v1, (T5.cell (p := ⟨wo.heap.size, 2, none⟩) hlw).trans v2, (T5.cell (p := ⟨wo.heap.size, 3, none⟩) hlw).trans v3, by omega, hJ.trans (T5.mono (by omega))⟩
                    case measure => simp [intOf]; omega
                · obtain rfl : np = q := by omega
                  have hfs : f k = max s (np - s) := by rw [FK.out, ← S.out]
                  obtain ⟨x, hx⟩ : ∃ x, f k = x := ⟨_, rfl⟩
                  have hxs : x = max s (np - s) := by rw [← hx, hfs]
                  have hnp60 : np ≤ 60 := hp60
                  clear hfs
                  by_cases hmx : (s : Int) < (np : Int) - (s : Int)
                  · have hx1 : (x : Int) = (np : Int) - (s : Int) := by omega
                    clear hxs
                    rcases HBS.out with ⟨rfl, rfl, rfl⟩ | ⟨hk0, hbv, hlv⟩
                    · have Y := Lib.hid (show BestI f (0 + 1) 0 ((np : Int) - (s : Int)) from .inr ⟨by omega, rfl, by rw [minAt_one, hx]; omega⟩)
                      clear hx
                      go_wp2_with fail
                      go_roundw
                      case rel => exact ⟨0 + 1, 0, ((np : Int) - (s : Int)), by omega, by go_num, rfl, by first | rfl | go_num, Y.out, hJ4⟩
                      case measure => simp [intOf]; omega
                    · have hml := minAt_lt (f := f) hk0
                      by_cases hle : x < f (minAt f k)
                      · have Y := Lib.hid (show BestI f (k + 1) k ((np : Int) - (s : Int)) from .inr ⟨by omega, by rw [minAt_yes hk0 (by rw [hx]; exact hle)], by rw [minAt_yes hk0 (by rw [hx]; exact hle), hx]; omega⟩)
                        obtain ⟨a, ha⟩ : ∃ a, minAt f k = a := ⟨_, rfl⟩
                        obtain ⟨y, hy⟩ : ∃ y, f (minAt f k) = y := ⟨_, rfl⟩
                        rw [hy] at hle hlv; rw [ha] at hbv hml
                        subst hbv; subst hlv
                        clear hx hy ha
                        have hle' : ((np : Int) - (s : Int)) < (y : Int) := by omega
                        have hy0 : ¬ (y : Int) < 0 := by omega
                        go_wp2_with fail
                        go_roundw
                        case rel => exact ⟨k + 1, k, ((np : Int) - (s : Int)), by omega, by go_num, rfl, by first | rfl | go_num, Y.out, hJ4⟩
                        case measure => simp [intOf]; omega
                      · have Y := Lib.hid (show BestI f (k + 1) bv lv from .inr ⟨by omega, by rw [minAt_no hk0 (by rw [hx]; exact hle), hbv], by rw [minAt_no hk0 (by rw [hx]; exact hle), hlv]⟩)
                        obtain ⟨a, ha⟩ : ∃ a, minAt f k = a := ⟨_, rfl⟩
                        obtain ⟨y, hy⟩ : ∃ y, f (minAt f k) = y := ⟨_, rfl⟩
                        rw [hy] at hle hlv; rw [ha] at hbv hml
                        subst hbv; subst hlv
                        clear hx hy ha
                        have hle' : ¬ ((np : Int) - (s : Int)) < (y : Int) := by omega
                        have hy0 : ¬ (y : Int) < 0 := by omega
                        go_wp2_with fail
                        go_roundw
                        case rel => exact ⟨k + 1, a, y, by omega, by go_num, rfl, by first | rfl | go_num, Y.out, hJ4⟩
                        case measure => simp [intOf]; omega
                  · have hx1 : (x : Int) = (s : Int) := by omega
                    clear hxs
                    rcases HBS.out with ⟨rfl, rfl, rfl⟩ | ⟨hk0, hbv, hlv⟩
                    · have Y := Lib.hid (show BestI f (0 + 1) 0 (s : Int) from .inr ⟨by omega, rfl, by rw [minAt_one, hx]; omega⟩)
                      clear hx
                      go_wp2_with fail
                      go_roundw
                      case rel => exact ⟨0 + 1, 0, (s : Int), by omega, by go_num, rfl, by first | rfl | go_num, Y.out, hJ4⟩
                      case measure => simp [intOf]; omega
                    · have hml := minAt_lt (f := f) hk0
                      by_cases hle : x < f (minAt f k)
                      · have Y := Lib.hid (show BestI f (k + 1) k (s : Int) from .inr ⟨by omega, by rw [minAt_yes hk0 (by rw [hx]; exact hle)], by rw [minAt_yes hk0 (by rw [hx]; exact hle), hx]; omega⟩)
                        obtain ⟨a, ha⟩ : ∃ a, minAt f k = a := ⟨_, rfl⟩
                        obtain ⟨y, hy⟩ : ∃ y, f (minAt f k) = y := ⟨_, rfl⟩
                        rw [hy] at hle hlv; rw [ha] at hbv hml
                        subst hbv; subst hlv
                        clear hx hy ha
                        have hle' : (s : Int) < (y : Int) := by omega
                        have hy0 : ¬ (y : Int) < 0 := by omega
                        go_wp2_with fail
                        go_roundw
                        case rel => exact ⟨k + 1, k, (s : Int), by omega, by go_num, rfl, by first | rfl | go_num, Y.out, hJ4⟩
                        case measure => simp [intOf]; omega
                      · have Y := Lib.hid (show BestI f (k + 1) bv lv from .inr ⟨by omega, by rw [minAt_no hk0 (by rw [hx]; exact hle), hbv], by rw [minAt_no hk0 (by rw [hx]; exact hle), hlv]⟩)
                        obtain ⟨a, ha⟩ : ∃ a, minAt f k = a := ⟨_, rfl⟩
                        obtain ⟨y, hy⟩ : ∃ y, f (minAt f k) = y := ⟨_, rfl⟩
                        rw [hy] at hle hlv; rw [ha] at hbv hml
                        subst hbv; subst hlv
                        clear hx hy ha
                        have hle' : ¬ (s : Int) < (y : Int) := by omega
                        have hy0 : ¬ (y : Int) < 0 := by omega
                        go_wp2_with fail
                        go_roundw
                        case rel => exact ⟨k + 1, a, y, by omega, by go_num, rfl, by first | rfl | go_num, Y.out, hJ4⟩
                        case measure => simp [intOf]; omega
            · obtain rfl : m = k := by omega
              rcases HBS.out with ⟨h0, _, _⟩ | ⟨_, hbv, _⟩
              · omega
              · have V := Lib.hid (show btV xs ts = bv by rw [E.out, hbv])
                clear hbv
                go_wp2
                go_ret2
                exact BtC.mk V.out R.out hIw
      · have hcode : ∀ W, BatchS W A n xs → Calls Tryz.prog 24 #[.slice A n c] W (fun e w' => e = .returned (.int .i64 3) ∧ Below W.heap.size W w') := fun W hW => by have := implBadCode_any A n c xs W hW; unfold IsCode at this; rw [hz] at this; exact this
        have R := Lib.hid (show btC xs ts = 3 by
          rw [btC, if_pos g, if_pos g1]
          by_cases h : ts = []
          · rw [if_pos h]
          · rw [if_neg h, if_neg hany])
        have G := Lib.hid g; have G1 := Lib.hid g1; clear g g1 hz hany
        go_enter Tryz.func11, Tryz.ntmps11
        go_wp2_with fail
        (refine (asB (implValidBatches_any _ _ _ xs _ (hA.below (by first | (go_grown; done) | (go_split_ands; assumption)))) G.out).mono ?_; rintro e w1 ⟨rfl, hb1⟩; obtain ⟨hc1, hf1⟩ := bcell hb1; have hz1 := hb1.size; (try simp only [World.size_alloc] at hz1); (try simp only [World.size_setCell] at hz1); (try simp only [World.size_drew] at hz1); (try have L1 : w.heap.size < w1.heap.size := by omega); have B1 : Below w.heap.size w w1 := bel_tr (by first | (go_grown; done) | (go_split_ands; assumption)) hb1)
        go_wp2_with fail
        (refine (asB (implValidBatches_any _ _ _ ts _ (hB.below (by first | (go_grown; done) | (go_split_ands; assumption)))) G1.out).mono ?_; rintro e w2 ⟨rfl, hb2⟩; obtain ⟨hc2, hf2⟩ := bcell hb2; have hz2 := hb2.size; (try simp only [World.size_alloc] at hz2); (try simp only [World.size_setCell] at hz2); (try simp only [World.size_drew] at hz2); (try have L2 : w.heap.size < w2.heap.size := by omega); have B2 : Below w.heap.size w w2 := bel_tr (by first | (go_grown; done) | (go_split_ands; assumption)) hb2)
        go_wp2_with fail
        (refine (hcode _ (hA.below (by first | (go_grown; done) | (go_split_ands; assumption)))).mono ?_; rintro e w3 ⟨rfl, hb3⟩; obtain ⟨hc3, hf3⟩ := bcell hb3; have hz3 := hb3.size; (try simp only [World.size_alloc] at hz3); (try simp only [World.size_setCell] at hz3); (try simp only [World.size_drew] at hz3); (try have L3 : w.heap.size < w3.heap.size := by omega); have B3 : Below w.heap.size w w3 := bel_tr (by first | (go_grown; done) | (go_split_ands; assumption)) hb3)
        go_wp2_with fail
        go_ret2
        exact BtC.bad R.out (by omega) B3
    · have R := Lib.hid (show btC xs ts = 1 by rw [btC, if_pos g, g1]; rfl)
      have G := Lib.hid g; have G1 := Lib.hid g1; clear g g1
      go_enter Tryz.func11, Tryz.ntmps11
      go_wp2_with fail
      (refine (asB (implValidBatches_any _ _ _ xs _ (hA.below (by first | (go_grown; done) | (go_split_ands; assumption)))) G.out).mono ?_; rintro e w1 ⟨rfl, hb1⟩; obtain ⟨hc1, hf1⟩ := bcell hb1; have hz1 := hb1.size; (try simp only [World.size_alloc] at hz1); (try simp only [World.size_setCell] at hz1); (try simp only [World.size_drew] at hz1); (try have L1 : w.heap.size < w1.heap.size := by omega); have B1 : Below w.heap.size w w1 := bel_tr (by first | (go_grown; done) | (go_split_ands; assumption)) hb1)
      go_wp2_with fail
      (refine (asB (implValidBatches_any _ _ _ ts _ (hB.below (by first | (go_grown; done) | (go_split_ands; assumption)))) G1.out).mono ?_; rintro e w2 ⟨rfl, hb2⟩; obtain ⟨hc2, hf2⟩ := bcell hb2; have hz2 := hb2.size; (try simp only [World.size_alloc] at hz2); (try simp only [World.size_setCell] at hz2); (try simp only [World.size_drew] at hz2); (try have L2 : w.heap.size < w2.heap.size := by omega); have B2 : Below w.heap.size w w2 := bel_tr (by first | (go_grown; done) | (go_split_ands; assumption)) hb2)
      go_wp2_with fail
      go_ret2
      exact BtC.bad R.out (by omega) B2
  · have R := Lib.hid (show btC xs ts = 1 by rw [btC, g]; rfl)
    have G := Lib.hid g; clear g
    go_enter Tryz.func11, Tryz.ntmps11
    go_wp2_with fail
    (refine (asB (implValidBatches_any _ _ _ xs _ (hA.below (by first | (go_grown; done) | (go_split_ands; assumption)))) G.out).mono ?_; rintro e w1 ⟨rfl, hb1⟩; obtain ⟨hc1, hf1⟩ := bcell hb1; have hz1 := hb1.size; (try simp only [World.size_alloc] at hz1); (try simp only [World.size_setCell] at hz1); (try simp only [World.size_drew] at hz1); (try have L1 : w.heap.size < w1.heap.size := by omega); have B1 : Below w.heap.size w w1 := bel_tr (by first | (go_grown; done) | (go_split_ands; assumption)) hb1)
    go_wp2_with fail
    go_ret2
    exact BtC.bad R.out (by omega) B1
end Go.Proofs.YtmapjepdcbpalaaGreatDoor
