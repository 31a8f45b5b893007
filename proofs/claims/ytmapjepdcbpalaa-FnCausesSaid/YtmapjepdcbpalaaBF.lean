/- The contracts of l18Set and of the reference's FewestCauses. -/
import Derived.Test.YtmapjepdcbpalaaBD
import Derived.Test.YtmapjepdcbpalaaCQ3
import Derived.Test.YtmapjepdcbpalaaB7
namespace Go.Proofs.Ytmapjepdcbpalaa
open Go.RowKit
set_option linter.unusedVariables false

theorem open_ex (xs : List Batch) (s : List Cause) : xs.any (openB s) = !exB (badsOf xs) s := by
  rw [Bool.eq_iff_iff, Bool.not_eq_true', exB, List.all_eq_false, List.any_eq_true]
  constructor
  · rintro ⟨b, hb, h⟩
    rw [openB, Bool.and_eq_true, Bool.not_eq_true'] at h
    exact ⟨b, List.mem_filter.2 ⟨hb, h.1⟩, by rw [h.2]; simp⟩
  · rintro ⟨b, hb, h⟩
    obtain ⟨h1, h2⟩ := List.mem_filter.1 hb
    exact ⟨b, h1, by rw [openB, h2]; simpa using h⟩
theorem posL_rises (xs : List Batch) : Rises (posL xs) := ((allC_rises 60).filter _).filter _

/-- The last of a list of causes, from place j on and ahead of place q. -/
theorem mid_step {p : List Cause} {j q : Nat} (h : j ≤ q) (hq : q < p.length) : (p.take (q + 1)).drop j = (p.take q).drop j ++ [nt p q] := by
  rw [take_snoc_nt hq, List.drop_append_of_le_length (by rw [List.length_take]; omega)]
theorem mid_self (p : List Cause) (j : Nat) : (p.take j).drop j = [] := by
  rw [List.drop_eq_nil_iff, List.length_take]; omega

theorem drop_sub {p : List Cause} {i j : Nat} (h : i ≤ j) : (p.drop j).Sublist (p.drop i) := by
  obtain ⟨d, rfl⟩ : ∃ d, j = i + d := ⟨j - i, by omega⟩
  rw [← List.drop_drop]; exact List.drop_sublist _ _
def SetR (bs : List Batch) (p begun : List Cause) (i m base : Nat) (w : World) (e : Ending) (w' : World) : Prop :=
  ∃ A n c b, e = .returned (.tuple #[.slice A n c, .bool b]) ∧ Below w.heap.size w w' ∧
    (b = true → ∃ s g, Sought bs p begun i m (some s) ∧ A = some ⟨g, 0, none⟩ ∧ s.length = n ∧ RowFCause w' g n (nt s) ∧ base ≤ g) ∧ (b = false → Sought bs p begun i m none)
theorem SetR.chain {bs : List Batch} {p begun begun' : List Cause} {i i' m m' base : Nat} {w w0 : World} {e : Ending} {w' : World} (h : SetR bs p begun i m base w0 e w') (hb : Below w.heap.size w w') (hs : ∀ s, Sought bs p begun i m (some s) → Sought bs p begun' i' m' (some s)) (hn : Sought bs p begun i m none → Sought bs p begun' i' m' none) : SetR bs p begun' i' m' base w e w' := by
  obtain ⟨A, n, c, b, he, _, h1, h2⟩ := h
  exact ⟨A, n, c, b, he, hb, fun hb => by
    obtain ⟨s, g, k1, k2, k3, k4, k5⟩ := h1 hb
    exact ⟨s, g, hs s k1, k2, k3, k4, k5⟩, fun hb => hn (h2 hb)⟩
theorem SetR.none_ {bs : List Batch} {p begun : List Cause} {i m base : Nat} {w w' : World} (h : Sought bs p begun i m none) (hb : Below w.heap.size w w') : SetR bs p begun i m base w (.returned (.tuple #[.slice none 0 0, .bool false])) w' :=
  ⟨_, _, _, _, rfl, hb, (fun h => by cases h), fun _ => h⟩
theorem SetR.some_ {bs : List Batch} {p begun s : List Cause} {i m base g n c : Nat} {w w' : World} (h : Sought bs p begun i m (some s)) (hl : s.length = n) (hR : RowFCause w' g n (nt s)) (hg : base ≤ g) (hb : Below w.heap.size w w') : SetR bs p begun i m base w (.returned (.tuple #[.slice (some ⟨g, 0, none⟩) n c, .bool true])) w' :=
  ⟨_, _, _, _, rfl, hb, fun _ => ⟨s, g, h, rfl, hl, hR, hg⟩, (fun h => by cases h)⟩
set_option maxRecDepth 20000 in
set_option maxHeartbeats 8000000 in
theorem l18Set_any (A : Option Addr) (n c : Nat) (xs : List Batch) (P : Option Addr) (np cp : Nat) (p : List Cause) (hr : Rises p) (hp : p.length = np) (hp16 : np ≤ 16) :
    ∀ (m : Nat) (i : Nat) (begun : List Cause) (g nb cb base : Nat) (w : World), BatchS w A n xs → CauseS w P np p → RowFCause w g nb (nt begun) → begun.length = nb → nb ≤ 100 - m → m ≤ 20 → base ≤ g → base ≤ w.heap.size → i ≤ np →
      (∀ t : List Cause, t.Sublist (p.drop i) → t.length < m → exB (badsOf xs) (begun ++ t) = false) →
      Calls Try.prog 84 #[.slice A n c, .slice P np cp, .slice (some ⟨g, 0, none⟩) nb cb, .int .i64 (i : Int), .int .i64 (m : Int)] w (SetR (badsOf xs) p begun i m base w) := by
  intro m
  induction m with
  | zero =>
    intro i begun g nb cb base w hA hP hg hb hnb hm20 hbg hbw hi hfew
    have HP := Lib.hid hP; have HG := Lib.hid hg; have HBL := Lib.hid hb
    have OX := Lib.hid (open_ex xs begun)
    have hcon := l18Open_any A n c xs (some ⟨g, 0, none⟩) nb cb begun w hA (hg.S hb (by omega))
    clear hP hg hb hfew
    go_enter Try.func84, Try.ntmps84
    go_wp2_with fail
    refine hcon.mono ?_; rintro e w1 ⟨r, rfl, hr1, hb1⟩
    have N1 := Lib.hid hr1.neg
    clear hr1 hcon
    by_cases hr0 : r < 0
    · have E := Lib.hid (show exB (badsOf xs) begun = true by
        have := N1.out; rw [OX.out] at this; simpa [hr0] using this.symm)
      go_wp2
      go_ret2
      exact SetR.some_ (Sought.zero_yes E.out) HBL.out (HG.out.below hb1) hbg hb1
    · have E := Lib.hid (show exB (badsOf xs) begun = false by
        have := N1.out; rw [OX.out] at this; simpa [hr0] using this.symm)
      go_wp2
      go_ret2
      exact ⟨_, _, _, _, rfl, hb1, (fun h => absurd (of_decide_eq_true h) (by omega)), fun _ => Sought.zero_no E.out⟩
  | succ m ih =>
    intro i begun g nb cb base w hA hP hg hb hnb hm20 hbg hbw hi hfew
    have IH := Lib.hid ih
    have FEW := Lib.hid hfew
    have HR := Lib.hid hr
    have PL := Lib.hid hp
    have HG := Lib.hid hg; have HBL := Lib.hid hb
    have E0 := Lib.hid (show exB (badsOf xs) begun = false by simpa using hfew [] (List.nil_sublist _) (by simp))
    have hcon := l18Open_any A n c xs (some ⟨g, 0, none⟩) nb cb begun w hA (hg.S hb (by omega))
    have HA := Lib.hid hA; have HP := Lib.hid hP
    have hm0 : ¬ ((m : Int) + 1) = 0 := by omega
    have hm1 : (((m : Int) + 1) == 0) = false := by rw [beq_eq_false_iff_ne]; omega
    have hmm : (((m + 1 : Nat) : Int)) = (m : Int) + 1 := by omega
    have L := Lib.hid hA.len
    have hn := hA.bound
    clear ih hfew hr hp hg hb hA hP
    rw [hmm]
    clear hmm
    go_enter Try.func84, Try.ntmps84
    go_wp2_with fail
    refine hcon.mono ?_; rintro e w1 ⟨r, rfl, hr1, hb1⟩
    clear hcon
    obtain ⟨k0, hk0, rfl, ho⟩ : ∃ k0 : Nat, k0 < n ∧ r = (k0 : Int) ∧ openB begun (nt xs k0) = true := by
      rcases hr1 with ⟨_, h⟩ | ⟨k, hk, rfl, h, _⟩
      · rw [open_ex, E0.out] at h; cases h
      · exact ⟨k, by rw [← L.out]; exact hk, rfl, h⟩
    clear hr1
    rw [openB, Bool.and_eq_true, Bool.not_eq_true'] at ho
    have BM := Lib.hid (show nt xs k0 ∈ badsOf xs from List.mem_filter.2 ⟨nt_mem (by rw [L.out]; exact hk0), ho.1⟩)
    have BN := Lib.hid ho.2
    clear ho
    have hz1 := hb1.size
    go_wp2_with fail
    go_loopw [13] (fun u wr => ∃ j : Nat, i ≤ j ∧ j ≤ np ∧ u = .int .i64 j ∧ (∀ r, Sought (badsOf xs) p begun j (m + 1) r → Sought (badsOf xs) p begun i (m + 1) r) ∧ Below w.heap.size w wr) (fun u _ => np - (intOf u).toNat)
    case atStart => exact ⟨i, Nat.le_refl _, hi, rfl, fun _ h => h, hb1⟩
    case round =>
      obtain ⟨j, hij, hjn, rfl, hch, hB⟩ := hrel
      have CH := Lib.hid hch; clear hch
      have hz := hB.size
      obtain ⟨wo, rfl⟩ : ∃ wo : World, wo = wr := ⟨_, rfl⟩
      by_cases hlt : j < np
      · go_wp2
        go_loopw [15, 14] (fun u v wr => ∃ (q : Nat) (t : Bool), j ≤ q ∧ q ≤ np ∧ u = .int .i64 q ∧ v = .bool t ∧ t = ((p.take q).drop j).any (hasB (nt xs k0)) ∧ Below w.heap.size w wr) (fun u _ _ => np - (intOf u).toNat)
        case atStart => exact ⟨j, false, Nat.le_refl _, hjn, rfl, rfl, by rw [mid_self]; rfl, hB⟩
        case round =>
          obtain ⟨q, t, hjq, hqn, rfl, rfl, ht, hB2⟩ := hrel
          have T := Lib.hid ht; clear ht
          have hz2 := hB2.size
          obtain ⟨wc, rfl⟩ : ∃ wc : World, wc = wr := ⟨_, rfl⟩
          by_cases hqt : q < np
          · have MS := Lib.hid (mid_step hjq (by rw [PL.out]; exact hqt))
            cases t with
            | true =>
              have Vn := Lib.hid (show true = ((p.take (q + 1)).drop j).any (hasB (nt xs k0)) by rw [MS.out, List.any_append, ← T.out]; rfl)
              go_wp2
              go_quiet (fail)
              go_wp2
              go_roundw
              case rel => exact ⟨q + 1, true, by omega, by omega, by go_num, rfl, Vn.out, below_drewN hB2 _⟩
              case measure => simp [intOf]; omega
            | false =>
              obtain ⟨b, off, rfl, hb, hc⟩ := (HA.out.below hB2).cell (by omega)
              obtain ⟨hq0, hq1, hq2, hq3⟩ := hc k0 hk0
              clear hc
              obtain ⟨b2, off2, rfl, hb2, hc2⟩ := (HP.out.below hB2).cell (by omega)
              obtain ⟨hr0, hr1⟩ := hc2 q hqt
              clear hc2
              obtain ⟨u, hu⟩ : ∃ u, hasB (nt xs k0) (nt p q) = u := ⟨_, rfl⟩
              have U := Lib.hid hu; clear hu
              have Vn := Lib.hid (show u = ((p.take (q + 1)).drop j).any (hasB (nt xs k0)) by rw [MS.out, List.any_append, ← T.out, ← U.out]; simp)
              go_wp2_with fail
              go_region_held3 (fun w' => w'.cell? ⟨b, off + k0 * 4, none⟩ = some (.int .i64 (nt xs k0).Clay) ∧ w'.cell? ⟨b, off + k0 * 4 + 1, none⟩ = some (.int .i64 (nt xs k0).Mould) ∧ w'.cell? ⟨b, off + k0 * 4 + 2, none⟩ = some (.int .i64 (nt xs k0).Chamber) ∧ w'.cell? ⟨b, off + k0 * 4 + 3, none⟩ = some (.bool (nt xs k0).Bad) ∧ w'.cell? ⟨b2, off2 + q * 2, none⟩ = some (.int .i64 (nt p q).Kind) ∧ w'.cell? ⟨b2, off2 + q * 2 + 1, none⟩ = some (.int .i64 (nt p q).Number) ∧ b < w'.heap.size ∧ b2 < w'.heap.size ∧ Below wc.heap.size wc w')
                ((try refine ⟨?_, ?_, ?_, ?_, ?_, ?_, ?_, ?_, ?_⟩) <;> (first | go_keep | (go_grown; done) | (go_split_ands; first | exact (hb1.cell (p := ⟨_, _, none⟩) (by assumption)).trans (by assumption) | exact Nat.lt_of_lt_of_le (by assumption) hb1.size | exact bel_tr (by assumption) hb1)))
                ((go_at_call 77; refine (asB (l18Has_any (nt xs k0) (nt p q) _) U.out).mono ?_; rintro e w1 ⟨rfl, hb1⟩))
              all_goals
                go_wp2_with fail
                go_roundw
                case rel => exact ⟨q + 1, u, by omega, by omega, by go_num, rfl, Vn.out, by go_split_ands; exact bel_tr hB2 (by assumption)⟩
                case measure => simp [intOf]; omega
          · obtain rfl : np = q := by omega
            have hT : t = (p.drop j).any (hasB (nt xs k0)) := by
              have := T.out; rw [List.take_of_length_le (by rw [PL.out]; exact Nat.le_refl _)] at this; exact this
            cases t with
            | false =>
              have S := Lib.hid (CH.out none (Sought.late BM.out BN.out hT.symm))
              clear hT
              go_wp2
              go_ret2
              exact SetR.none_ S.out hB2
            | true =>
              clear hT
              have HG2 := Lib.hid (HG.out.below hB2)
              have hgl := HG2.out.lt
              have hln : nb ≤ 100 := by omega
              have hLEN := Lib.hid HBL.out
              have HOn := Lib.hid (OwnC.made' (base := wc.heap.size) (w := wc) (Nat.le_refl _) rfl)
              have HNEW := Lib.hid (show ∀ t, t < nb → (nt begun t).lies (wc.alloc (.cells #[] 38)) g (0 + t * 2) from fun t ht => by
                rw [Nat.zero_add]
                exact (HG2.out.cell t ht).keep fun o => ((Below.refl wc.heap.size wc).alloc (Nat.le_refl _) _).cell (p := ⟨g, o, none⟩) hgl)
              obtain ⟨b2, off2, e2, hb2, hc2⟩ := (HP.out.below hB2).cell (by omega)
              subst e2
              have HC2 := Lib.hid (hc2 j hlt)
              clear hc2
              have HLB := Lib.hid (show begun.length ≤ 1000000 by rw [HBL.out]; omega)
              go_wp2_with (first | (at_builtin; refine wpList_appCS _ rfl (.tmp 59) (.tmp 60) rfl wc.heap.size _ _ HOn.out rfl g 0 nb cb begun rfl hLEN.out HNEW.out (by simp; omega) (by simp) ?_; intro v3 w3 hO3 hk3 hs3; have hB3 : Below wc.heap.size wc w3 := (hk3 (Nat.le_refl _) ((Below.refl _ _).alloc (Nat.le_refl _) _)); have hr := (HC2.out.keep (w' := w3) (fun o => hB3.cell (p := ⟨b2, o, none⟩) hb2)); obtain ⟨hr0, hr1⟩ := hr; rw [List.nil_append] at hO3; have HO3 := (Lib.hid hO3); have hz3 := hB3.size; clear hO3 hk3 hs3) | (at_builtin; refine wpList_appC1 _ rfl (.tmp 65) (.tmp 70) rfl wc.heap.size _ _ HO3.out rfl _ _ _ rfl rfl HLB.out (by omega) ?_; intro v4 w4 hO4 hk4 hs4))
              have hB4 : Below wc.heap.size wc w4 := hk4 (Nat.le_refl _) hB3
              have hB4w : Below w.heap.size w w4 := hB2.trans (hB4.mono hz2)
              have hz4 := hB4.size
              obtain ⟨g4, cap4, rfl, hg4, hcap4, hR4⟩ := hO4.row
              have HR4 : Hid (RowFCause w4 g4 (begun ++ [nt p j]).length (nt (begun ++ [nt p j]))) := Lib.hid hR4
              have hgl4 := HR4.out.lt
              have HL4 := Lib.hid (show (begun ++ [nt p j]).length = nb + 1 by rw [List.length_append, HBL.out]; rfl)
              clear hO4 hk4 hs4 hR4
              have FEW2 := Lib.hid (show ∀ t : List Cause, t.Sublist (p.drop (j + 1)) → t.length < m → exB (badsOf xs) ((begun ++ [nt p j]) ++ t) = false from fun t ht hl => by
                have := FEW.out (nt p j :: t) ((List.Sublist.cons_cons _ ht).trans (by rw [← drop_nt (by rw [PL.out]; exact hlt)]; exact drop_sub hij)) (by simpa using hl)
                rw [List.append_assoc, List.singleton_append]; exact this)
              have hcall := IH.out (j + 1) (begun ++ [nt p j]) g4 (begun ++ [nt p j]).length cap4 base w4 (HA.out.below hB4w) (HP.out.below hB4w) HR4.out rfl (by rw [HL4.out]; omega) (by omega) (by omega) (by omega) (by omega) FEW2.out
              have hj1 : (((j + 1 : Nat) : Int)) = (j : Int) + 1 := by omega
              rw [hj1] at hcall
              clear hj1
              go_wp2_with fail
              refine hcall.mono ?_; rintro e w5 ⟨A5, n5, c5, b5, rfl, hb5, h1, h2⟩
              clear hcall
              have hB5 : Below w.heap.size w w5 := hB4w.trans (hb5.mono (by omega))
              cases b5 with
              | true =>
                obtain ⟨s, g5, k1, rfl, k3, k4, k5⟩ := h1 rfl
                have S := Lib.hid (CH.out (some s) (Sought.take (by rw [PL.out]; exact hlt) HR.out k1))
                have K3 := Lib.hid k3; have K4 := Lib.hid k4
                clear h1 h2 k1 k3 k4
                go_wp2
                go_ret2
                exact SetR.some_ S.out K3.out K4.out k5 hB5
              | false =>
                have S := Lib.hid (h2 rfl)
                clear h1 h2
                go_wp2
                go_roundw
                case rel => exact ⟨j + 1, by omega, by omega, by go_num, fun r k => CH.out r (Sought.skip (by rw [PL.out]; exact hlt) HR.out S.out k), hB5⟩
                case measure => simp [intOf]; omega
      · obtain rfl : np = j := by omega
        have S := Lib.hid (CH.out none (by have := Sought.end_ (bs := badsOf xs) (p := p) (begun := begun) (m := m); rwa [PL.out] at this))
        go_wp2
        go_ret2
        exact SetR.none_ S.out hB

/-- The fewest causes that explain all bad batches, the first of such sets. -/
noncomputable def bestL (bs : List Batch) (p : List Cause) : List Cause := @Classical.epsilon _ ⟨[]⟩ (Best bs p)
theorem bestL_eq {bs : List Batch} {p s : List Cause} (h : Best bs p s) : bestL bs p = s := (@Classical.epsilon_spec _ (Best bs p) ⟨s, h⟩).uniq h
def fcC (xs : List Batch) : Int := if codeB xs = 0 then (if (posL xs).length ≤ 16 then (if exB (badsOf xs) (posL xs) = true then 0 else 9) else 5) else codeB xs
noncomputable def fcL (xs : List Batch) : List Cause := if fcC xs = 0 then bestL (badsOf xs) (posL xs) else []
theorem fcL_bad {xs : List Batch} {c : Int} (h : fcC xs = c) (hc : c ≠ 0) : fcL xs = [] := by rw [fcL, h, if_neg hc]
theorem bads_ne {xs : List Batch} (h : xs.any (·.Bad) = true) : exB (badsOf xs) [] = false := by
  obtain ⟨b, hb, hh⟩ := List.any_eq_true.1 h
  rw [exB, List.all_eq_false]
  exact ⟨b, List.mem_filter.2 ⟨hb, hh⟩, by simp⟩
set_option maxHeartbeats 8000000 in
theorem specFewestCauses_any (A : Option Addr) (n c : Nat) (xs : List Batch) (w : World) (hA : BatchS w A n xs) :
    Calls Try.prog 46 #[.slice A n c] w (CauseC (fcL xs) (fcC xs) w) := by
  have hn := hA.bound
  have L := Lib.hid hA.len
  obtain ⟨z, hzc⟩ : ∃ z, codeB xs = z := ⟨_, rfl⟩
  have hcode : ∀ W, BatchS W A n xs → Calls Try.prog 83 #[.slice A n c] W (fun e w' => e = .returned (.int .i64 z) ∧ Below W.heap.size W w') := fun W hW => by subst hzc; exact l18Code_any A n c xs W hW
  by_cases h0 : z = 0
  · subst h0
    obtain ⟨hok, hany⟩ := codeB_ok hzc
    have NE := Lib.hid (bads_ne hany)
    have FC := Lib.hid (show fcC xs = (if (posL xs).length ≤ 16 then (if exB (badsOf xs) (posL xs) = true then 0 else 9) else 5) by rw [fcC, if_pos hzc])
    have FL := Lib.hid (show fcC xs = 0 → fcL xs = bestL (badsOf xs) (posL xs) from fun h => by rw [fcL, if_pos h])
    have RI := Lib.hid (posL_rises xs)
    have hpo := fun W hW => l18Possible_any A n c xs W hW
    have hset := fun np cp P (hp : (posL xs).length = np) h16 => l18Set_any A n c xs P np cp (posL xs) RI.out hp h16
    have HA := Lib.hid hA
    clear hok hany hzc hA
    obtain ⟨p, hp⟩ : ∃ p, posL xs = p := ⟨_, rfl⟩
    rw [hp] at FC FL RI hpo hset
    clear hp
    have HSET := Lib.hid hset; clear hset
    go_enter Try.func46, Try.ntmps46
    go_wp2_with fail
    (refine (hcode _ (HA.out.below (by first | (go_grown; done) | (go_split_ands; assumption)))).mono ?_; rintro e w1 ⟨rfl, hb1⟩; obtain ⟨hc1, hf1⟩ := bcell hb1; have hz1 := hb1.size; (try simp only [World.size_alloc] at hz1); (try simp only [World.size_setCell] at hz1); (try simp only [World.size_drew] at hz1); (try have L1 : w.heap.size < w1.heap.size := by omega); have B1 : Below w.heap.size w w1 := bel_tr (by first | (go_grown; done) | (go_split_ands; assumption)) hb1)
    clear hc1 hf1
    go_wp2_with fail
    refine (hpo _ (HA.out.below B1)).mono ?_; rintro e w2 ⟨P, np, cp, rfl, hS2, hz2, hf2, hb2⟩
    have B2 : Below w.heap.size w w2 := bel_tr B1 hb2
    have PL := Lib.hid hS2.len
    have HS2 := Lib.hid hS2
    have hnp := hS2.bound
    clear hS2 hz2 hf2 hb2 hpo hcode
    by_cases h16 : np ≤ 16
    · rw [PL.out, if_pos h16] at FC
      have hcon := l18Open_any A n c xs P np cp p w2 (HA.out.below B2) HS2.out
      go_wp2_with fail
      refine hcon.mono ?_; rintro e w3 ⟨r, rfl, hr3, hb3⟩
      have N3 := Lib.hid hr3.neg
      have B3 : Below w.heap.size w w3 := bel_tr B2 hb3
      have HS3 := Lib.hid (HS2.out.below hb3)
      clear hcon hr3
      by_cases hr0 : r < 0
      · have E := Lib.hid (show exB (badsOf xs) p = true by
          have := N3.out; rw [open_ex] at this; simpa [hr0] using this.symm)
        have R := Lib.hid (show fcC xs = 0 by rw [FC.out, if_pos E.out])
        have hnp1 : 1 ≤ np := by
          rcases Nat.eq_zero_or_pos np with z | z
          · have h1 := PL.out
            rw [z] at h1
            have := E.out
            rw [List.length_eq_zero_iff.1 h1, NE.out] at this; cases this
          · exact z
        have hr0' : ¬ (0 ≤ r) := by omega
        go_wp2_with fail
        go_loopw [6] (fun u wr => ∃ k : Nat, 1 ≤ k ∧ k ≤ np ∧ u = .int .i64 k ∧ Fewer (badsOf xs) p k ∧ Below w2.heap.size w2 wr) (fun u _ => np + 1 - (intOf u).toNat)
        case atStart => exact ⟨1, Nat.le_refl _, hnp1, rfl, fun t _ hl => by rw [List.length_eq_zero_iff.1 (show t.length = 0 by omega)]; exact NE.out, hb3⟩
        case round =>
          obtain ⟨k, hk1, hkn, rfl, hF, hB2w⟩ := hrel
          have hB : Below w.heap.size w wr := B2.trans (hB2w.mono B2.size)
          have hzz := hB2w.size
          have HF := Lib.hid hF; clear hF
          have hz := hB.size
          obtain ⟨g, cap, e0, hg, hcap, hR⟩ := (OwnC.made' (base := wr.heap.size) (w := wr) (Nat.le_refl _) rfl).row
          simp only [Value.slice.injEq, Option.some.injEq, Addr.mk.injEq, and_true, List.length_nil, true_and] at e0
          obtain ⟨rfl, rfl⟩ := e0
          have hal : Below w.heap.size w (wr.alloc (.cells #[] 38)) := hB.alloc (by omega) _
          have hcall := HSET.out np cp P PL.out h16 k 0 [] wr.heap.size 0 0 wr.heap.size _ (HA.out.below hal) (HS2.out.below (hB2w.alloc (by omega) _)) hR rfl (by omega) (by omega) (Nat.le_refl _) (by simp) (Nat.zero_le _) (fun t ht hl => by rw [List.nil_append]; exact HF.out t (by simpa using ht) hl)
          go_wp2_with fail
          refine hcall.mono ?_; rintro e w5 ⟨A5, n5, c5, b5, rfl, hb5, h1, h2⟩
          clear hcall
          have hB5 : Below w.heap.size w w5 := bel_tr hal hb5
          cases b5 with
          | true =>
            obtain ⟨s, g5, k1, rfl, k3, k4, k5⟩ := h1 rfl
            have S := Lib.hid (show fcL xs = s by rw [FL.out R.out]; exact bestL_eq (HF.out.best k1))
            have K3 := Lib.hid k3; have K4 := Lib.hid k4
            have hs16 : n5 ≤ 16 := by
              have := (HF.out.best k1).1.length_le
              rw [PL.out, k3] at this; omega
            clear h1 h2 k1 k3 k4
            go_wp2
            go_ret2
            exact CauseC.row' K4.out S.out R.out K3.out (by omega) (by omega) hB5
          | false =>
            have F2 := Lib.hid (HF.out.succ (h2 rfl))
            have hkn' : k + 1 ≤ np := by
              rcases Nat.lt_or_ge k np with h | h
              · exact h
              · have := F2.out p (List.Sublist.refl _) (by rw [PL.out]; omega)
                rw [E.out] at this; cases this
            clear h1 h2
            go_wp2
            go_roundw
            case rel => exact ⟨k + 1, by omega, hkn', by go_num, F2.out, bel_tr (hB2w.alloc (by omega) _) hb5⟩
            case measure => simp [intOf]; omega
      · have E := Lib.hid (show exB (badsOf xs) p = false by
          have := N3.out; rw [open_ex] at this; simpa [hr0] using this.symm)
        have R := Lib.hid (show fcC xs = 9 by rw [FC.out, E.out]; rfl)
        have hr0' : 0 ≤ r := by omega
        go_wp2
        go_ret2
        exact CauseC.nil' (fcL_bad R.out (by omega)) R.out B3
    · have R := Lib.hid (show fcC xs = 5 by rw [FC.out, PL.out, if_neg h16])
      have h16' : (16 : Int) < (np : Int) := by omega
      go_wp2
      go_ret2
      exact CauseC.nil' (fcL_bad R.out (by omega)) R.out B2
  · have R := Lib.hid (show fcC xs = z by rw [fcC, hzc, if_neg h0])
    have E := Lib.hid (fcL_bad R.out h0)
    have h01 : (z == 0) = false := by rw [beq_eq_false_iff_ne]; exact h0
    have HA := Lib.hid hA
    clear hzc hA
    go_enter Try.func46, Try.ntmps46
    go_wp2_with fail
    (refine (hcode _ (HA.out.below (by first | (go_grown; done) | (go_split_ands; assumption)))).mono ?_; rintro e w1 ⟨rfl, hb1⟩; obtain ⟨hc1, hf1⟩ := bcell hb1; have hz1 := hb1.size; (try simp only [World.size_alloc] at hz1); (try simp only [World.size_setCell] at hz1); (try simp only [World.size_drew] at hz1); (try have L1 : w.heap.size < w1.heap.size := by omega); have B1 : Below w.heap.size w w1 := bel_tr (by first | (go_grown; done) | (go_split_ands; assumption)) hb1)
    go_wp2_with fail
    go_ret2
    exact CauseC.nil' E.out R.out B1
end Go.Proofs.Ytmapjepdcbpalaa
