/- The contracts of FrostLoss, the reference's and the program's. -/
import Derived.Test.YtoghgbbepjpelaaV2
namespace Go.Proofs.Ytoghgbbepjpelaa
open Go.RowKit
set_option linter.unusedVariables false

def byAt (s : ByteArray) (k : Nat) : Int := if h : k < s.size then (s[k].toNat : Int) else 0
theorem byAt_lt {s : ByteArray} {k : Nat} (h : k < s.size) : byAt s k = (s[k].toNat : Int) := by rw [byAt, dif_pos h]
/-- Is one of the first k so? -/
def anyB (p : Nat → Bool) : Nat → Bool
  | 0 => false
  | k + 1 => anyB p k || p k
theorem anyB_none {p : Nat → Bool} : ∀ {k : Nat}, NoneB p k → anyB p k = false
  | 0, _ => rfl
  | k + 1, h => by rw [anyB, anyB_none (k := k) (fun j hj => h j (by omega)), h k (by omega)]; rfl
theorem anyB_some {p : Nat → Bool} {j : Nat} (h : p j = true) : ∀ {k : Nat}, j < k → anyB p k = true
  | 0, hk => absurd hk (by omega)
  | k + 1, hk => by
    rw [anyB]
    by_cases e : j = k
    · subst e; rw [h]; simp
    · rw [anyB_some h (k := k) (by omega)]; rfl
/-- Frost on a day before which the bricks have not had what they need. -/
def frostP (s : ByteArray) (a : Nat) (needs : Int) (j : Nat) : Bool := (byAt s (a + j) == 102) && decide (psW s a j < needs)
def lostB (s : ByteArray) (r : Rack) : Bool := anyB (frostP s r.Since.toNat r.Needs) (s.size - r.Since.toNat)
def frSum (xs : List Rack) (s : ByteArray) : Nat → Int
  | 0 => 0
  | k + 1 => frSum xs s k + (if lostB s (nt xs k) = true then (nt xs k).Holds else 0)
theorem frSum_yes {xs : List Rack} {s : ByteArray} {k : Nat} (h : lostB s (nt xs k) = true) : frSum xs s (k + 1) = frSum xs s k + (nt xs k).Holds := by rw [frSum, if_pos h]
theorem frSum_no {xs : List Rack} {s : ByteArray} {k : Nat} (h : lostB s (nt xs k) = false) : frSum xs s (k + 1) = frSum xs s k := by rw [frSum, h]; simp
theorem frSum_bound {xs : List Rack} (h : racksOk xs = true) (s : ByteArray) : ∀ k, k ≤ xs.length → 0 ≤ frSum xs s k ∧ frSum xs s k ≤ 2000 * (k : Int) := by
  intro k
  induction k with
  | zero => intro _; simp [frSum]
  | succ k ih =>
    intro hk
    have h1 := ih (by omega)
    have h2 := okB_facts (racksOk_at h (k := k) (by omega))
    rw [frSum]
    split <;> omega
def frF (xs : List Rack) (s : ByteArray) : Int × Int := if bothC xs s = 0 then (frSum xs s xs.length, 0) else (0, bothC xs s)

set_option maxHeartbeats 2000000 in
theorem specFrostLoss_any (A : Option Addr) (n c : Nat) (xs : List Rack) (s : ByteArray) (w : World) (hA : RackS w A n xs) (hs : s.size ≤ 9223372036854775807) :
    Calls Try.prog 43 #[.slice A n c, .string s] w (Two (frF xs s) w) := by
  have hn := hA.bound
  by_cases g : bothC xs s = 0
  · have E := Lib.hid (show frF xs s = (frSum xs s n, 0) by rw [frF, if_pos g, hA.len])
    obtain ⟨ok, hW⟩ := bothC_zero g
    have h20 := racksOk_len ok
    rw [hA.len] at h20
    have h60 := (weatherB_parts hW).1
    have L := Lib.hid hA.len
    have OK := Lib.hid ok; have HW := Lib.hid hW; have G := Lib.hid g; clear ok hW g
    go_enter Try.func43, Try.ntmps43
    go_wp2_with fail
    refine (l15Both_any _ _ _ xs s _ hA hs).mono ?_; rw [G.out]; rintro e w1 ⟨rfl, hb1⟩; have hz1 := hb1.size
    go_wp2_with fail
    go_loopw [7, 8] (fun u i wr => ∃ k : Nat, k ≤ n ∧ i = .int .i64 k ∧ u = .int .i64 (frSum xs s k) ∧ Below w.heap.size w wr) (fun _ i _ => n - (intOf i).toNat)
    case atStart => exact ⟨0, Nat.zero_le _, rfl, rfl, hb1⟩
    case round =>
      obtain ⟨k, hk, rfl, rfl, hB⟩ := hrel
      have hz := hB.size
      obtain ⟨wo, rfl⟩ : ∃ wo : World, wo = wr := ⟨_, rfl⟩
      by_cases hlt : k < n
      · obtain ⟨b, off, rfl, hb, hc⟩ := (hA.below hB).cell (by omega)
        have hkl : k < xs.length := by rw [L.out]; exact hlt
        have hok := racksOk_at OK.out hkl
        obtain ⟨s0, s1⟩ := frSum_bound OK.out s k (by omega)
        obtain ⟨⟨hr1, hr2⟩, ⟨hh0, hh1⟩, ⟨hs0, hs1⟩, _⟩ := okB_facts hok
        obtain ⟨a, ha⟩ := Int.eq_ofNat_of_zero_le hs0
        have ha60 : a ≤ 60 := by omega
        have HL := Lib.hid (show lostB s (nt xs k) = anyB (frostP s a (nt xs k).Needs) (s.size - a) by rw [lostB, ha]; rfl)
        have hcl : (nt xs k).lies wo b (off + k * 4) := hc k hlt
        have HC := Lib.hid hcl
        obtain ⟨_, hq1, hq2, hq3⟩ := hcl
        rw [ha] at hq2
        have HQ2 := Lib.hid hq2
        clear hc hs0 hs1 ha
        go_wp2_with fail
        clear hq1 hq3
        go_loopw [9, 10] (fun u v wr => ∃ (i : Nat) (x : Bool), a ≤ i ∧ (i ≤ s.size ∨ i = a) ∧ v = .int .i64 i ∧ u = .bool x ∧ anyB (frostP s a (nt xs k).Needs) (i - a) = x ∧ Below wo.heap.size wo wr) (fun _ v _ => s.size - (intOf v).toNat)
        case atStart => exact ⟨a, false, Nat.le_refl _, .inr rfl, rfl, rfl, by rw [Nat.sub_self]; rfl, Below.refl _ _⟩
        case round =>
          obtain ⟨i, x, hai, hib, rfl, rfl, hx, hI⟩ := hrel
          have HX := Lib.hid hx; clear hx
          have e2 : wr.cell? ⟨b, off + k * 4 + 2, none⟩ = some (.int .i64 (a : Int)) := (hI.cell (p := ⟨b, off + k * 4 + 2, none⟩) hb).trans HQ2.out
          obtain ⟨_, e1, _, e3⟩ := HC.out.keep (w' := wr) fun o => hI.cell (p := ⟨b, o, none⟩) hb
          by_cases hil : i < s.size
          · have ST := Lib.hid (show anyB (frostP s a (nt xs k).Needs) (i + 1 - a) = (anyB (frostP s a (nt xs k).Needs) (i - a) || ((s[i].toNat : Int) == 102 && decide (psW s a (i - a) < (nt xs k).Needs))) by
              rw [show i + 1 - a = (i - a) + 1 by omega, anyB, frostP, show a + (i - a) = i by omega, byAt_lt hil])
            clear hib
            cases x
            · rcases Bool.eq_false_or_eq_true ((s[i].toNat : Int) == 102) with q | q
              · rcases Bool.eq_false_or_eq_true (decide (psW s a (i - a) < (nt xs k).Needs)) with r | r
                · have Q := Lib.hid q; have R := Lib.hid r
                  go_wp2_with fail
                  go_quiet ((go_at_call 70; exact q_same (l15Sum_any s a i _ hs HW.out (by omega) (by omega))))
                  go_wp2
                  go_roundw
                  case rel => exact ⟨i + 1, true, by omega, .inl (by omega), by go_num, rfl, by rw [ST.out, HX.out, Q.out, R.out]; rfl, bel_tr hI (below_drewN (Below.refl _ _) _)⟩
                  case measure => simp [intOf]; omega
                · have Q := Lib.hid q; have R := Lib.hid r
                  go_wp2_with fail
                  go_quiet ((go_at_call 70; exact q_same (l15Sum_any s a i _ hs HW.out (by omega) (by omega))))
                  go_wp2
                  go_roundw
                  case rel => exact ⟨i + 1, false, by omega, .inl (by omega), by go_num, rfl, by rw [ST.out, HX.out, Q.out, R.out]; rfl, bel_tr hI (below_drewN (Below.refl _ _) _)⟩
                  case measure => simp [intOf]; omega
              · have Q := Lib.hid q
                go_wp2_with fail
                go_quiet (fail)
                go_wp2
                go_roundw
                case rel => exact ⟨i + 1, false, by omega, .inl (by omega), by go_num, rfl, by rw [ST.out, HX.out, Q.out]; rfl, bel_tr hI (below_drewN (Below.refl _ _) _)⟩
                case measure => simp [intOf]; omega
            · go_wp2_with fail
              go_quiet (fail)
              go_wp2
              go_roundw
              case rel => exact ⟨i + 1, true, by omega, .inl (by omega), by go_num, rfl, by rw [ST.out, HX.out]; rfl, bel_tr hI (below_drewN (Below.refl _ _) _)⟩
              case measure => simp [intOf]; omega
          · have HE := Lib.hid (show lostB s (nt xs k) = x by rw [HL.out, ← HX.out, show i - a = s.size - a by omega])
            cases x
            · have Q := Lib.hid (frSum_no (xs := xs) HE.out)
              go_wp2_with fail
              go_roundw
              case rel => exact ⟨k + 1, by omega, by go_num, by rw [Q.out], bel_tr hB hI⟩
              case measure => simp [intOf]; omega
            · have Q := Lib.hid (frSum_yes (xs := xs) HE.out)
              go_wp2_with fail
              go_roundw
              case rel => exact ⟨k + 1, by omega, by go_num, by rw [Q.out], bel_tr hB hI⟩
              case measure => simp [intOf]; omega
      · obtain rfl : n = k := by omega
        go_wp2
        go_ret2
        exact Two.mk E.out hB
  · have E := Lib.hid (show frF xs s = (0, bothC xs s) by rw [frF, if_neg g])
    have g3 : (bothC xs s != 0) = true := by simpa using g
    clear g
    go_enter Try.func43, Try.ntmps43
    go_wp2_with fail
    refine (l15Both_any _ _ _ xs s _ hA hs).mono ?_; rintro e w1 ⟨rfl, hb1⟩; have hz1 := hb1.size
    go_wp2_with fail
    go_ret2
    exact Two.mk E.out hb1

set_option maxHeartbeats 2000000 in
theorem implFrostLoss_any (A : Option Addr) (n c : Nat) (xs : List Rack) (s : ByteArray) (w : World) (hA : RackS w A n xs) (hs : s.size ≤ 9223372036854775807) :
    Calls Try.prog 42 #[.slice A n c, .string s] w (Two (frF xs s) w) := by
  have hn := hA.bound
  by_cases g : bothC xs s = 0
  · have E := Lib.hid (show frF xs s = (frSum xs s n, 0) by rw [frF, if_pos g, hA.len])
    obtain ⟨ok, hW⟩ := bothC_zero g
    have h20 := racksOk_len ok
    rw [hA.len] at h20
    have h60 := (weatherB_parts hW).1
    have L := Lib.hid hA.len
    have OK := Lib.hid ok; have HW := Lib.hid hW; have G := Lib.hid g; clear ok hW g
    go_enter Try.func42, Try.ntmps42
    go_wp2_with fail
    refine (racksCode_any _ _ _ xs s _ hA hs).mono ?_; rw [G.out]; rintro e w1 ⟨rfl, hb1⟩; have hz1 := hb1.size
    go_wp2_with fail
    go_loopw [7, 19] (fun u i wr => ∃ k : Nat, k ≤ n ∧ i = .int .i64 k ∧ u = .int .i64 (frSum xs s k) ∧ Below w.heap.size w wr) (fun _ i _ => n - (intOf i).toNat)
    case atStart => exact ⟨0, Nat.zero_le _, rfl, rfl, hb1⟩
    case round =>
      obtain ⟨k, hk, rfl, rfl, hB⟩ := hrel
      have hz := hB.size
      obtain ⟨wo, rfl⟩ : ∃ wo : World, wo = wr := ⟨_, rfl⟩
      by_cases hlt : k < n
      · obtain ⟨b, off, rfl, hb, hc⟩ := (hA.below hB).cell (by omega)
        have hkl : k < xs.length := by rw [L.out]; exact hlt
        have hok := racksOk_at OK.out hkl
        obtain ⟨s0, s1⟩ := frSum_bound OK.out s k (by omega)
        obtain ⟨⟨hr1, hr2⟩, ⟨hh0, hh1⟩, ⟨hs0, hs1⟩, _⟩ := okB_facts hok
        obtain ⟨a, ha⟩ := Int.eq_ofNat_of_zero_le hs0
        have ha60 : a ≤ 60 := by omega
        have HL := Lib.hid (show lostB s (nt xs k) = anyB (frostP s a (nt xs k).Needs) (s.size - a) by rw [lostB, ha]; rfl)
        obtain ⟨hq0, hq1, hq2, hq3⟩ := hc k hlt
        rw [ha] at hq2
        clear hc hs0 hs1 ha
        have hB1 : Below w.heap.size w (wo.alloc (.cells #[.int .i64 (nt xs k).Room, .int .i64 (nt xs k).Holds, .int .i64 (a : Int), .int .i64 (nt xs k).Needs] 53)) := hB.alloc hz _
        go_wp2_with fail
        clear hq0 hq1 hq2 hq3
        go_loopw [7, 10] (fun u v wr => ∃ i : Nat, a ≤ i ∧ (i ≤ s.size ∨ i = a) ∧ v = .int .i64 i ∧ u = .int .i64 (frSum xs s k) ∧ NoneB (frostP s a (nt xs k).Needs) (i - a) ∧ wr = wo.alloc (.cells #[.int .i64 (nt xs k).Room, .int .i64 (nt xs k).Holds, .int .i64 (a : Int), .int .i64 (nt xs k).Needs] 53)) (fun _ v _ => s.size - (intOf v).toNat)
        case atStart => exact ⟨a, Nat.le_refl _, .inr rfl, rfl, rfl, by rw [Nat.sub_self]; exact NoneB.zero _, rfl⟩
        case round =>
          obtain ⟨i, hai, hib, rfl, rfl, hn2, rfl⟩ := hrel
          have HN := Lib.hid hn2; clear hn2
          by_cases hil : i < s.size
          · have HP := Lib.hid (show frostP s a (nt xs k).Needs (i - a) = ((s[i].toNat : Int) == 102 && decide (psW s a (i - a) < (nt xs k).Needs)) by
              rw [frostP, show a + (i - a) = i by omega, byAt_lt hil])
            have HD := Lib.hid (show isDryB s a (nt xs k).Needs i = !decide (psW s a (i - a) < (nt xs k).Needs) by
              rw [isDryB, dryP, Bool.eq_iff_iff]; simp [hai])
            clear hib
            rcases Bool.eq_false_or_eq_true ((s[i].toNat : Int) == 102) with q | q
            · rcases Bool.eq_false_or_eq_true (decide (psW s a (i - a) < (nt xs k).Needs)) with r | r
              · have Q := Lib.hid q; have R := Lib.hid r; clear r
                have HS := Lib.hid (frSum_yes (xs := xs) (s := s) (k := k) (by rw [HL.out]; exact anyB_some (j := i - a) (by rw [HP.out, Q.out, R.out]; rfl) (by omega)))
                have D := Lib.hid (show isDryB s a (nt xs k).Needs i = false by rw [HD.out, R.out]; rfl)
                go_wp2_with fail
                refine (asB (isDry_any s a i (nt xs k).Needs _ hs HW.out (by omega) (by omega)) D.out).mono ?_; rintro e w' ⟨rfl, rfl⟩
                go_wp2_with fail
                go_roundw
                case rel => exact ⟨k + 1, by omega, by go_num, by rw [HS.out], hB1⟩
                case measure => simp [intOf]; omega
              · have Q := Lib.hid q; have R := Lib.hid r; clear r
                have D := Lib.hid (show isDryB s a (nt xs k).Needs i = true by rw [HD.out, R.out]; rfl)
                go_wp2_with fail
                refine (asB (isDry_any s a i (nt xs k).Needs _ hs HW.out (by omega) (by omega)) D.out).mono ?_; rintro e w' ⟨rfl, rfl⟩
                go_wp2_with fail
                go_roundw
                case rel => exact ⟨i + 1, by omega, .inl (by omega), by go_num, rfl, by rw [show i + 1 - a = (i - a) + 1 by omega]; exact HN.out.succ (by rw [HP.out, Q.out, R.out]; rfl), by first | rfl | trivial⟩
                case measure => simp [intOf]; omega
            · have Q := Lib.hid q
              go_wp2_with fail
              go_roundw
              case rel => exact ⟨i + 1, by omega, .inl (by omega), by go_num, rfl, by rw [show i + 1 - a = (i - a) + 1 by omega]; exact HN.out.succ (by rw [HP.out, Q.out]; rfl), by first | rfl | trivial⟩
              case measure => simp [intOf]; omega
          · have HS := Lib.hid (frSum_no (xs := xs) (s := s) (k := k) (by rw [HL.out, show s.size - a = i - a by omega]; exact anyB_none HN.out))
            go_wp2_with fail
            go_roundw
            case rel => exact ⟨k + 1, by omega, by go_num, by rw [HS.out], hB1⟩
            case measure => simp [intOf]; omega
      · obtain rfl : n = k := by omega
        go_wp2
        go_ret2
        exact Two.mk E.out hB
  · have E := Lib.hid (show frF xs s = (0, bothC xs s) by rw [frF, if_neg g])
    have g3 : (bothC xs s != 0) = true := by simpa using g
    clear g
    go_enter Try.func42, Try.ntmps42
    go_wp2_with fail
    refine (racksCode_any _ _ _ xs s _ hA hs).mono ?_; rintro e w1 ⟨rfl, hb1⟩; have hz1 := hb1.size
    go_wp2_with fail
    go_ret2
    exact Two.mk E.out hb1
end Go.Proofs.Ytoghgbbepjpelaa
