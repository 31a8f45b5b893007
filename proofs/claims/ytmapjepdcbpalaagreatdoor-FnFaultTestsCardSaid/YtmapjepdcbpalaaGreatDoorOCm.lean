/- slices.Compact over causes. -/
import Derived.Test.YtmapjepdcbpalaaGreatDoorOCause
import Derived.Test.YtmapjepdcbpalaaGreatDoorCQ
namespace Go.Proofs.YtmapjepdcbpalaaGreatDoor
open Go.RowKit
set_option linter.unusedVariables false

def lastD : Cause → List Cause → Cause
  | p, [] => p
  | _, b :: l => lastD b l
theorem lastD_nt : ∀ (p : Cause) (l : List Cause), lastD p l = nt (p :: l) l.length
  | p, [] => rfl
  | p, b :: l => by
    rw [lastD, lastD_nt b l]
    rfl
theorem cmpct_snoc : ∀ (p : Cause) (l : List Cause) (x : Cause), cmpct p (l ++ [x]) = cmpct p l ++ (if Cause.eqB x (lastD p l) = true then [] else [x])
  | p, [], x => by
    rw [List.nil_append, cmpct, cmpct, cmpct, lastD]; split <;> rfl
  | p, b :: l, x => by
    rw [List.cons_append, cmpct, cmpct, lastD]
    by_cases e : Cause.eqB b p = true
    · rw [if_pos e, if_pos e, cmpct_snoc p l x, Cause.eqB_iff.1 e]
    · rw [if_neg e, if_neg e, cmpct_snoc b l x, List.cons_append]
/-- Is place j's cause no repetition? -/
def kpC (l : List Cause) (j : Nat) : Bool := decide (j = 0) || !Cause.eqB (nt l j) (nt l (j - 1))
theorem kpC_zero (l : List Cause) : kpC l 0 = true := rfl
theorem kpC_succ (l : List Cause) (t : Nat) : kpC l (t + 1) = !Cause.eqB (nt l (t + 1)) (nt l t) := by simp [kpC]
theorem keptL_compact (l : List Cause) : ∀ {m : Nat}, m ≤ l.length → keptL (kpC l) l m = compactL (l.take m)
  | 0, _ => rfl
  | m + 1, h => by
    have ih := keptL_compact l (m := m) (by omega)
    rw [keptL, ih, take_snoc_nt (by omega)]
    cases m with
    | zero => rw [kpC_zero, List.take_zero]; rfl
    | succ m =>
      rw [kpC_succ]
      cases hl : l.take (m + 1) with
      | nil =>
        have := congrArg List.length hl
        rw [List.length_take, List.length_nil] at this; omega
      | cons a t =>
        have htl : t.length = m := by
          have := congrArg List.length hl
          rw [List.length_take, List.length_cons] at this; omega
        have hlast : lastD a t = nt l m := by
          rw [lastD_nt, htl, ← hl, nt_lt (by rw [List.length_take]; omega), List.getElem_take, nt_lt (by omega)]
        rw [List.cons_append, compactL, compactL, cmpct_snoc, hlast, List.cons_append]
        rcases Bool.eq_false_or_eq_true (Cause.eqB (nt l (m + 1)) (nt l m)) with g | g <;> simp [g]

def Pressed (l : List Cause) (g cap : Nat) (w : World) (e : Ending) (w' : World) : Prop :=
  e = .returned (.slice (some ⟨g, 0, none⟩) (compactL l).length cap) ∧ RowFCause w' g (compactL l).length (nt (compactL l)) ∧ w.grownBy w' (some g)
theorem Pressed.mk {l l' : List Cause} {g cap m : Nat} {w w' : World} (h : compactL l = l') (hm : l'.length = m) (hr : RowFCause w' g m (nt l')) (hg : w.grownBy w' (some g)) : Pressed l g cap w (.returned (.slice (some ⟨g, 0, none⟩) m cap)) w' := by
  subst h; subst hm; exact ⟨rfl, hr, hg⟩
theorem compact_all {l : List Cause} (h : ∀ j, j < l.length → kpC l j = true) : compactL l = l := by
  have := keptL_compact l (Nat.le_refl l.length)
  rw [List.take_length] at this
  rw [← this, keptL_all (Nat.le_refl _) h, List.take_length]
set_option maxRecDepth 100000 in
set_option maxHeartbeats 4000000 in
theorem compactC_any (g n cap : Nat) (l : List Cause) (w : World) (hl : l.length = n) (hn : n ≤ 1048576) (hcap : n ≤ cap) (hR : RowFCause w g n (nt l)) :
    Calls Tryz.prog 40 #[.slice (some ⟨g, 0, none⟩) n cap] w (Pressed l g cap w) := by
  have L := Lib.hid hl
  have HR := Lib.hid hR; clear hR hl
  by_cases h2 : n < 2
  · have E := Lib.hid (compact_all (l := l) (fun j hj => by
      have : j = 0 := by rw [L.out] at hj; omega
      subst this; rfl))
    go_enter Tryz.func40, Tryz.ntmps40
    go_wp2
    go_ret
    exact Pressed.mk E.out L.out HR.out (World.grownBy.refl _ _)
  · go_enter Tryz.func40, Tryz.ntmps40
    go_wp2
    go_loopw [3] (fun u wr => ∃ t : Nat, t + 1 ≤ n ∧ u = .int .i64 ((t : Int) + 1) ∧ Hid (∀ j, j < t + 1 → kpC l j = true) ∧ Below w.heap.size w wr) (fun u _ => n + 1 - (intOf u).toNat)
    case atStart => exact ⟨0, by omega, rfl, Lib.hid (fun j hj => by
      obtain rfl : j = 0 := by omega
      rfl), Below.refl _ _⟩
    case round =>
      obtain ⟨t, ht, rfl, HK, hbel⟩ := hrel
      have HF := Lib.hid (HR.out.below hbel)
      have hgl := HF.out.lt
      by_cases hlt : t + 1 < n
      · have hi0 : (0 : Int) ≤ (t : Int) + 1 := by omega
        have hi1 : (t : Int) + 1 < (n : Int) := by omega
        obtain ⟨hq0, hq1⟩ := HF.out.cell (t + 1) hlt
        obtain ⟨hp0, hp1⟩ := HF.out.cell t (by omega)
        have X0 := Lib.hid (kpC_succ l t)
        rcases Bool.eq_false_or_eq_true ((nt l (t + 1)).Kind == (nt l t).Kind) with g0 | g0
        · rcases Bool.eq_false_or_eq_true ((nt l (t + 1)).Number == (nt l t).Number) with g1 | g1
          · have X := Lib.hid (show kpC l (t + 1) = false by rw [X0.out, Cause.eqB, g0, g1]; rfl)
            have hcapt : t + 1 < cap := by omega
            go_wp2
            go_quiet (fail)
            have HS := Lib.hid (KInv.start (kp := kpC l) (by rw [L.out]; exact hlt) HK.out X.out)
            go_wp2
            clear hq0 hq1 hp0 hp1 g0 g1
            have hB0 : Below w.heap.size w (wr.drewN nq) := below_drewN hbel _
            have HF0 := Lib.hid (HR.out.below hB0)
            go_loopw [5, 3] (fun u v wz => ∃ (s i : Nat) (f : Nat → Cause), u = .int .i64 ((s : Int) + 1) ∧ v = .int .i64 i ∧ t + 2 + s ≤ n ∧ Hid (KInv (kpC l) l (t + 2 + s) i f) ∧ Hid (RowFCause wz g n f) ∧ w.grownBy wz (some g)) (fun u _ _ => n + 1 - (intOf u).toNat)
            case atStart => exact ⟨0, t + 1, nt l, rfl, by go_num, by omega, HS, HF0, bel_grown hB0⟩
            case round =>
              obtain ⟨s, i, f, rfl, rfl, hs, HI, HF2, hg⟩ := hrel
              have hij := HI.out.lt
              have hgl2 := HF2.out.lt
              have hk0 : (0 : Int) ≤ (s : Int) + 1 := by omega
              by_cases hst : t + 2 + s < n
              · have hk1 : (s : Int) + 1 < ((n - (t + 1) : Nat) : Int) := by omega
                have hfj := HI.out.high (t + 2 + s) (by omega)
                have hfi := HI.out.high (t + 1 + s) (by omega)
                obtain ⟨hq0, hq1⟩ := HF2.out.cell (t + 2 + s) hst
                obtain ⟨hp0, hp1⟩ := HF2.out.cell (t + 1 + s) (by omega)
                rw [hfj] at hq0 hq1
                rw [hfi] at hp0 hp1
                clear hfj hfi
                rw [show (t + 2 + s) * 2 = (t + 1) * 2 + (s + 1) * 2 by omega] at hq0 hq1
                rw [show (t + 1 + s) * 2 = (t + 1) * 2 + s * 2 by omega] at hp0 hp1
                have X0' := Lib.hid (show kpC l (t + 2 + s) = !Cause.eqB (nt l (t + 2 + s)) (nt l (t + 1 + s)) by
                  have := kpC_succ l (t + 1 + s)
                  rw [show t + 1 + s + 1 = t + 2 + s by omega] at this; exact this)
                rcases Bool.eq_false_or_eq_true ((nt l (t + 2 + s)).Kind == (nt l (t + 1 + s)).Kind) with e0 | e0
                · rcases Bool.eq_false_or_eq_true ((nt l (t + 2 + s)).Number == (nt l (t + 1 + s)).Number) with e1 | e1
                  · have Y := Lib.hid (HI.out.no (show kpC l (t + 2 + s) = false by rw [X0'.out, Cause.eqB, e0, e1]; rfl))
                    go_wp2
                    go_quiet (fail)
                    go_wp2
                    go_roundw
                    case rel => exact ⟨s + 1, i, f, by go_num, rfl, by omega, Y, Lib.hid (HF2.out.below (below_drewN (Below.refl _ _) _)), grown_bel hg (below_drewN (Below.refl _ _) _)⟩
                    case measure => simp [intOf]; omega
                  · have Y := Lib.hid (HI.out.yes (show kpC l (t + 2 + s) = true by rw [X0'.out, Cause.eqB, e1]; simp))
                    have hin : i < n := by omega
                    obtain ⟨hu0, hu1⟩ := HF2.out.cell i hin
                    have hz0 := HF2.out.frozen (i * 2)
                    have hz1 := HF2.out.frozen (i * 2 + 1)
                    go_wp2
                    go_quiet (fail)
                    go_wp2
                    go_roundw
                    case rel => exact ⟨s + 1, i + 1, _, by go_num, by go_num, by omega, Y, Lib.hid ((HF2.out.below (below_drewN (Below.refl _ _) _)).stored hin (nt l (t + 2 + s))), grown_storedCause (grown_bel hg (below_drewN (Below.refl _ _) _)) i (nt l (t + 2 + s))⟩
                    case measure => simp [intOf]; omega
                · have Y := Lib.hid (HI.out.yes (show kpC l (t + 2 + s) = true by rw [X0'.out, Cause.eqB, e0]; rfl))
                  have hin : i < n := by omega
                  obtain ⟨hu0, hu1⟩ := HF2.out.cell i hin
                  have hz0 := HF2.out.frozen (i * 2)
                  have hz1 := HF2.out.frozen (i * 2 + 1)
                  go_wp2
                  go_quiet (fail)
                  go_wp2
                  go_roundw
                  case rel => exact ⟨s + 1, i + 1, _, by go_num, by go_num, by omega, Y, Lib.hid ((HF2.out.below (below_drewN (Below.refl _ _) _)).stored hin (nt l (t + 2 + s))), grown_storedCause (grown_bel hg (below_drewN (Below.refl _ _) _)) i (nt l (t + 2 + s))⟩
                  case measure => simp [intOf]; omega
              · have hn2 : n = t + 2 + s := by omega
                have hicap : i < cap := by omega
                have hile : i ≤ n := by omega
                have hk1 : ¬ (s : Int) + 1 < ((n - (t + 1) : Nat) : Int) := by omega
                obtain ⟨w6, hrun, hg6, hs6, hlow, hfr⟩ := run_clear_k (P := Tryz.prog) wr 26 33 _ 2 Tryz.underlying26 Tryz.zeroValue33 rfl bytesCause g (i * 2) (n - i) (cap - i) (fun t ht => by
                  obtain ⟨hu0, hu1⟩ := HF2.out.cell (i + t / 2) (by omega)
                  have hr : t % 2 < 2 := Nat.mod_lt _ (by omega)
                  have e : i * 2 + t = (i + t / 2) * 2 + t % 2 := by omega
                  rw [e]
                  generalize t % 2 = r at hr ⊢
                  match r, hr with
                  | 0, _ => simp only [Nat.add_zero]; rw [hu0]; rfl
                  | 1, _ => rw [hu1]; rfl) HF2.out.frozen
                have E := Lib.hid (show compactL l = keptL (kpC l) l n by rw [keptL_compact l (by rw [L.out]; exact Nat.le_refl _), List.take_of_length_le (by rw [L.out]; exact Nat.le_refl _)])
                have HI2 := Lib.hid (show KInv (kpC l) l n i f by rw [hn2]; exact HI.out)
                have R6 := Lib.hid (show RowFCause w6 g i (nt (keptL (kpC l) l n)) from ⟨by rw [hs6]; exact hgl2, fun t ht => by
                  rw [← HI2.out.low t ht]
                  obtain ⟨hu0, hu1⟩ := HF2.out.cell t (by omega)
                  exact ⟨(hlow _ (by omega)).trans hu0, (hlow _ (by omega)).trans hu1⟩, hfr⟩)
                clear hlow hfr
                have HN2 := Lib.hid hn2; clear hn2
                go_wp2
                go_ret
                exact Pressed.mk E.out HI2.out.len R6.out (grown_tr hg hg6)
          · have X := Lib.hid (show kpC l (t + 1) = true by rw [X0.out, Cause.eqB, g1]; simp)
            go_wp2
            go_quiet (fail)
            go_wp2
            go_roundw
            case rel => exact ⟨t + 1, by omega, by go_num, Lib.hid (fun j hj => by
              by_cases e : j = t + 1
              · subst e; exact X.out
              · exact HK.out j (by omega)), below_drewN hbel _⟩
            case measure => simp [intOf]; omega
        · have X := Lib.hid (show kpC l (t + 1) = true by rw [X0.out, Cause.eqB, g0]; rfl)
          go_wp2
          go_quiet (fail)
          go_wp2
          go_roundw
          case rel => exact ⟨t + 1, by omega, by go_num, Lib.hid (fun j hj => by
            by_cases e : j = t + 1
            · subst e; exact X.out
            · exact HK.out j (by omega)), below_drewN hbel _⟩
          case measure => simp [intOf]; omega
      · obtain rfl : n = t + 1 := by omega
        have E := Lib.hid (compact_all (l := l) (fun j hj => HK.out j (by rw [L.out] at hj; exact hj)))
        go_wp2
        go_ret
        exact Pressed.mk E.out L.out (HR.out.below hbel) (bel_grown hbel)
end Go.Proofs.YtmapjepdcbpalaaGreatDoor
