/- The reference's CausesIn, CommonCauses, l18Possible and PossibleCauses. -/
import Derived.Test.YtmapjepdcbpalaaGreatDoorBA
namespace Go.Proofs.YtmapjepdcbpalaaGreatDoor
open Go.RowKit
set_option linter.unusedVariables false

def ciC (xs : List Batch) : Int := if batchesOk xs = true then 0 else 1
def ciL (xs : List Batch) : List Cause := if batchesOk xs = true then inL xs else []
def ccL (xs : List Batch) : List Cause := if codeB xs = 0 then comL xs else []
def pcL (xs : List Batch) : List Cause := if codeB xs = 0 then posL xs else []
theorem filt_yes {q : Cause → Bool} {al : List Cause} {k : Nat} (h : k < al.length) (hq : q (nt al k) = true) : (al.take (k + 1)).filter q = (al.take k).filter q ++ [nt al k] := by
  rw [take_snoc_nt h, List.filter_append]; simp [hq]
theorem filt_no {q : Cause → Bool} {al : List Cause} {k : Nat} (h : k < al.length) (hq : q (nt al k) = false) : (al.take (k + 1)).filter q = (al.take k).filter q := by
  rw [take_snoc_nt h, List.filter_append]; simp [hq]
theorem filt_len {q : Cause → Bool} {al : List Cause} (k : Nat) : ((al.take k).filter q).length ≤ al.length := Nat.le_trans (List.length_filter_le _ _) (by rw [List.length_take]; omega)
theorem CauseC.own' {l l' : List Cause} {code c' : Int} {w w' : World} {base : Nat} {v : Value} (h : OwnC w' base v l') (e : l = l') (ec : code = c') (hn : l'.length ≤ 1048576) (hg : w.heap.size ≤ base) (hb : Below w.heap.size w w') : CauseC l code w (.returned (.tuple #[v, .int .i64 c'])) w' := by
  subst e; subst ec; exact CauseC.own h hn hg hb
theorem CauseR.own' {l l' : List Cause} {w w' : World} {base : Nat} {v : Value} (h : OwnC w' base v l') (e : l = l') (hn : l'.length ≤ 1048576) (hg : w.heap.size ≤ base) (hb : Below w.heap.size w w') : CauseR l w (.returned v) w' := by
  subst e; exact CauseR.own h hn hg hb
theorem CauseC.nil' {l : List Cause} {code c' : Int} {w w' : World} (e : l = []) (ec : code = c') (hb : Below w.heap.size w w') : CauseC l code w (.returned (.tuple #[.slice none 0 0, .int .i64 c'])) w' := by
  subst e; subst ec; exact CauseC.none_ hb
theorem CauseC.to {l l' : List Cause} {code c' : Int} {w w0 w' : World} {A : Option Addr} {n c : Nat} (hS : CauseS w' A n l') (hz : Fz w' A) (hf : Fresh w0 w' A) (e : l = l') (ec : code = c') (hw : w.heap.size ≤ w0.heap.size) (hb : Below w.heap.size w w') : CauseC l code w (.returned (.tuple #[.slice A n c, .int .i64 c'])) w' := by
  subst e; subst ec; exact ⟨_, _, _, rfl, hS, hz, hf.mono hw (Nat.le_refl _), hb⟩


set_option maxHeartbeats 4000000 in
theorem l18Possible_any (A : Option Addr) (n c : Nat) (xs : List Batch) (w : World) (hA : BatchS w A n xs) :
    Calls Tryz.prog 27 #[.slice A n c] w (CauseR (posL xs) w) := by
  have hn := hA.bound
  have L := Lib.hid hA.len
  go_enter Tryz.func27, Tryz.ntmps27
  go_wp2_with fail
  refine (l18All_any _).mono ?_; rintro e w2 ⟨AL, m2, c2, rfl, hS2, hz2, hf2, hb2⟩
  have hm2 : m2 = 60 := by rw [← hS2.len, allC_len]
  subst hm2
  have B2 : Below w.heap.size w w2 := bel_tr (by first | (go_grown; done) | (go_split_ands; assumption)) hb2
  have hw2 : w.heap.size ≤ w2.heap.size := B2.size
  obtain ⟨al, hal⟩ : ∃ al, al = allC 60 := ⟨_, rfl⟩
  rw [← hal] at hS2
  have LA := Lib.hid (show al.length = 60 by rw [hal, allC_len])
  have HAL := Lib.hid hal
  have hAS := Lib.hid hS2
  clear hal hS2 hz2 hf2

  have hA2 := Lib.hid (hA.below B2)
  have hz2' := hb2.size
  go_wp2_with fail
  go_loopw [5, 4] (fun i v wr => ∃ k : Nat, k ≤ 60 ∧ i = .int .i64 k ∧ OwnC wr w2.heap.size v ((al.take k).filter (posB xs)) ∧ Below w2.heap.size w2 wr) (fun i _ _ => 60 - (intOf i).toNat)
  case atStart => exact ⟨0, Nat.zero_le _, rfl, OwnC.made' (by omega) rfl, (Below.refl _ _).alloc (by omega) _⟩
  case round =>
    obtain ⟨k, hk, rfl, hO, hB⟩ := hrel
    have HO := Lib.hid hO; clear hO
    have hz := hB.size
    obtain ⟨wc, rfl⟩ : ∃ wc : World, wc = wr := ⟨_, rfl⟩
    by_cases hlt : k < 60
    · obtain ⟨b, off, rfl, hb, hc⟩ := (hAS.out.below hB).cell (by omega)
      obtain ⟨hq0, hq1⟩ := hc k hlt
      clear hc
      have hla : k < al.length := by rw [LA.out]; exact hlt
      have HL := Lib.hid (show ((al.take k).filter (posB xs)).length ≤ 1000000 by have := filt_len (q := posB xs) (al := al) k; rw [LA.out] at this; omega)
      obtain ⟨x, hx⟩ : ∃ x, cntN (badP xs (nt al k)) n = x := ⟨_, rfl⟩
      obtain ⟨y, hy⟩ : ∃ y, cntN (goodP xs (nt al k)) n = y := ⟨_, rfl⟩
      have hcon := fun W hW => l18Count_any A n c xs (nt al k) W hW
      rw [hx, hy] at hcon
      have X := Lib.hid hx; have Y := Lib.hid hy
      have hx' : x ≤ n := by rw [← hx]; exact cntN_le _ _
      have hy' : y ≤ n := by rw [← hy]; exact cntN_le _ _
      clear hx hy
      rcases Nat.eq_zero_or_pos x with z | z
      · subst z
        have Q := Lib.hid (filt_no (q := posB xs) hla (by rw [posB, L.out, X.out]; simp))
        go_wp2_with fail
        refine (hcon _ (hA2.out.below hB)).mono ?_; rintro e w4 ⟨rfl, hb4⟩
        have HO4 := Lib.hid (HO.out.below hb4)
        have HB4 := Lib.hid (hB.trans (hb4.mono (by omega)))
        go_wp2_with fail
        go_roundw
        case rel => exact ⟨k + 1, by omega, by go_num, by rw [Q.out]; exact HO4.out, HB4.out⟩
        case measure => simp [intOf]; omega
      · have hx1 : (0 : Int) < (x : Int) := by omega
        rcases Nat.eq_zero_or_pos y with z2 | z2
        · subst z2
          have Q := Lib.hid (filt_yes (q := posB xs) hla (by rw [posB, L.out, X.out, Y.out]; simpa using z))
          go_wp2_with fail
          refine (hcon _ (hA2.out.below hB)).mono ?_; rintro e w4 ⟨rfl, hb4⟩
          have HO4 := Lib.hid (HO.out.below hb4)
          have HB4 := Lib.hid (hB.trans (hb4.mono (by omega)))
          have hz4 := hb4.size
          have hqq0 := (hb4.cell (p := ⟨b, _, none⟩) hb).trans hq0
          have hqq1 := (hb4.cell (p := ⟨b, _, none⟩) hb).trans hq1
          clear hq0 hq1
          go_wp2_with (at_builtin; refine wpList_appC1 _ rfl (.tmp 31) (.tmp 36) rfl w2.heap.size _ _ HO4.out rfl _ _ _ rfl rfl HL.out (by omega) ?_; intro v3 w3 hO3 hk3 hs3)
          have hB3 := hk3 (Nat.le_refl _) HB4.out
          go_roundw
          case rel => exact ⟨k + 1, by omega, by go_num, by rw [Q.out]; exact hO3, hB3⟩
          case measure => simp [intOf]; omega
        · have hy1 : ((y : Int) == 0) = false := by rw [beq_eq_false_iff_ne]; omega
          have hy2 : ¬ (y : Int) = 0 := by omega
          have Q := Lib.hid (filt_no (q := posB xs) hla (by rw [posB, L.out, X.out, Y.out]; simp; omega))
          go_wp2_with fail
          refine (hcon _ (hA2.out.below hB)).mono ?_; rintro e w4 ⟨rfl, hb4⟩
          have HO4 := Lib.hid (HO.out.below hb4)
          have HB4 := Lib.hid (hB.trans (hb4.mono (by omega)))
          go_wp2_with fail
          go_roundw
          case rel => exact ⟨k + 1, by omega, by go_num, by rw [Q.out]; exact HO4.out, HB4.out⟩
          case measure => simp [intOf]; omega
    · obtain rfl : k = 60 := by omega
      have F := Lib.hid (show al.take 60 = al by rw [List.take_of_length_le]; rw [LA.out]; omega)
      go_wp2
      go_ret
      exact CauseR.own' HO.out (by rw [F.out, HAL.out, spec_posL]) (by have := filt_len (q := posB xs) (al := al) 60; rw [LA.out] at this; omega) hw2 (B2.trans (hB.mono hw2))


set_option maxHeartbeats 4000000 in
theorem specPossibleCauses_any (A : Option Addr) (n c : Nat) (xs : List Batch) (w : World) (hA : BatchS w A n xs) :
    Calls Tryz.prog 12 #[.slice A n c] w (CauseC (pcL xs) (codeB xs) w) := by
  have hn := hA.bound
  have L := Lib.hid hA.len
  obtain ⟨z, hzc⟩ : ∃ z, codeB xs = z := ⟨_, rfl⟩
  have hcode : ∀ W, BatchS W A n xs → Calls Tryz.prog 26 #[.slice A n c] W (fun e w' => e = .returned (.int .i64 z) ∧ Below W.heap.size W w') := fun W hW => by subst hzc; exact l18Code_any A n c xs W hW
  have R := Lib.hid hzc
  by_cases h0 : z = 0
  · subst h0
    have E := Lib.hid (show pcL xs = posL xs by rw [pcL, if_pos hzc])
    clear hzc
    go_enter Tryz.func12, Tryz.ntmps12
    go_wp2_with fail
    (refine (hcode _ (hA.below (by first | (go_grown; done) | (go_split_ands; assumption)))).mono ?_; rintro e w1 ⟨rfl, hb1⟩; obtain ⟨hc1, hf1⟩ := bcell hb1; have hz1 := hb1.size; (try simp only [World.size_alloc] at hz1); (try simp only [World.size_setCell] at hz1); (try simp only [World.size_drew] at hz1); (try have L1 : w.heap.size < w1.heap.size := by omega); have B1 : Below w.heap.size w w1 := bel_tr (by first | (go_grown; done) | (go_split_ands; assumption)) hb1)
    clear hc1 hf1
    go_wp2_with fail
    refine (l18Possible_any _ _ _ xs _ (hA.below (by first | (go_grown; done) | (go_split_ands; assumption)))).mono ?_; rintro e w2 ⟨AL, m2, c2, rfl, hS2, hz2, hf2, hb2⟩
    go_wp2_with fail
    go_ret2
    exact CauseC.to hS2 hz2 hf2 E.out R.out B1.size (bel_tr B1 hb2)
  · have E := Lib.hid (show pcL xs = [] by rw [pcL, if_neg (by rw [R.out]; exact h0)])
    have h01 : (z == 0) = false := by rw [beq_eq_false_iff_ne]; exact h0
    clear hzc
    go_enter Tryz.func12, Tryz.ntmps12
    go_wp2_with fail
    (refine (hcode _ (hA.below (by first | (go_grown; done) | (go_split_ands; assumption)))).mono ?_; rintro e w1 ⟨rfl, hb1⟩; obtain ⟨hc1, hf1⟩ := bcell hb1; have hz1 := hb1.size; (try simp only [World.size_alloc] at hz1); (try simp only [World.size_setCell] at hz1); (try simp only [World.size_drew] at hz1); (try have L1 : w.heap.size < w1.heap.size := by omega); have B1 : Below w.heap.size w w1 := bel_tr (by first | (go_grown; done) | (go_split_ands; assumption)) hb1)
    go_wp2_with fail
    go_ret2
    exact CauseC.nil' E.out R.out B1
end Go.Proofs.YtmapjepdcbpalaaGreatDoor
