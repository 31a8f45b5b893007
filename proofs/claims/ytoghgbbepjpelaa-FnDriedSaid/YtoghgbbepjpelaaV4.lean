/- The contracts of DryBricks, the reference's and the program's. -/
import Derived.Test.YtoghgbbepjpelaaV2
import Derived.Test.YtoghgbbepjpelaaLs
namespace Go.Proofs.Ytoghgbbepjpelaa
open Go.RowKit
set_option linter.unusedVariables false

/-- How many bricks of the first k racks are dry on a day. -/
def sumD (xs : List Rack) (s : ByteArray) (d : Nat) : Nat → Int
  | 0 => 0
  | k + 1 => sumD xs s d k + (if readyB s (nt xs k) d = true then (nt xs k).Holds else 0)
theorem sumD_yes {xs : List Rack} {s : ByteArray} {d k : Nat} (h : readyB s (nt xs k) d = true) : sumD xs s d (k + 1) = sumD xs s d k + (nt xs k).Holds := by rw [sumD, if_pos h]
theorem sumD_no {xs : List Rack} {s : ByteArray} {d k : Nat} (h : readyB s (nt xs k) d = false) : sumD xs s d (k + 1) = sumD xs s d k := by rw [sumD, h]; simp
theorem sumD_bound {xs : List Rack} (h : racksOk xs = true) (s : ByteArray) (d : Nat) : ∀ k, k ≤ xs.length → 0 ≤ sumD xs s d k ∧ sumD xs s d k ≤ 2000 * (k : Int) := by
  intro k
  induction k with
  | zero => intro _; simp [sumD]
  | succ k ih =>
    intro hk
    have h1 := ih (by omega)
    have h2 := okB_facts (racksOk_at h (k := k) (by omega))
    rw [sumD]
    split <;> omega
def dryL (xs : List Rack) (s : ByteArray) (n : Nat) : Nat → List Int
  | 0 => []
  | m + 1 => dryL xs s n m ++ [sumD xs s m n]
theorem dryL_len (xs : List Rack) (s : ByteArray) (n : Nat) : ∀ m, (dryL xs s n m).length = m := by
  intro m
  induction m with
  | zero => rfl
  | succ m ih => rw [dryL, List.length_append, ih]; rfl
theorem dryL_next (xs : List Rack) (s : ByteArray) (n m : Nat) : (dryL xs s n (m + 1)).map (Value.int .i64) = (dryL xs s n m).map (Value.int .i64) ++ [.int .i64 (sumD xs s m n)] := by
  rw [dryL, List.map_append]; rfl
def dbL (xs : List Rack) (s : ByteArray) : List Int := if bothC xs s = 0 then dryL xs s xs.length (s.size + 1) else []

set_option maxHeartbeats 2000000 in
theorem specDryBricks_any (A : Option Addr) (n c : Nat) (xs : List Rack) (s : ByteArray) (w : World) (hA : RackS w A n xs) (hs : s.size ≤ 9223372036854775807) :
    Calls Try.prog 41 #[.slice A n c, .string s] w (ListC (dbL xs s) (bothC xs s) w) := by
  have hn := hA.bound
  by_cases g : bothC xs s = 0
  · have E := Lib.hid (show dbL xs s = dryL xs s n (s.size + 1) by rw [dbL, if_pos g, hA.len])
    obtain ⟨ok, hW⟩ := bothC_zero g
    have h20 := racksOk_len ok
    rw [hA.len] at h20
    have h60 := (weatherB_parts hW).1
    have L := Lib.hid hA.len
    have OK := Lib.hid ok; have HW := Lib.hid hW; have G := Lib.hid g; clear ok hW g
    go_enter Try.func41, Try.ntmps41
    go_wp2_with fail
    refine (l15Both_any _ _ _ xs s _ hA hs).mono ?_; rw [G.out]; rintro e w1 ⟨rfl, hb1⟩; have hz1 := hb1.size
    go_wp2_with fail
    go_loopw [7, 8] (fun v i wr => ∃ d : Nat, d ≤ s.size + 1 ∧ i = .int .i64 d ∧ OwnS wr w.heap.size 2 v ((dryL xs s n d).map (.int .i64)) ∧ Below w.heap.size w wr) (fun _ i _ => s.size + 1 - (intOf i).toNat)
    case atStart => exact ⟨0, Nat.zero_le _, rfl, OwnS.made' (by omega) rfl, bel_tr hb1 (by go_grown)⟩
    case round =>
      obtain ⟨d, hd1, rfl, hO, hB⟩ := hrel
      have HO := Lib.hid hO; clear hO
      have hz := hB.size
      obtain ⟨wo, rfl⟩ : ∃ wo : World, wo = wr := ⟨_, rfl⟩
      by_cases hdt : d < s.size + 1
      · have hd : d ≤ s.size := by omega
        have hdd : decide ((d : Int) < (s.size : Int) + 1) = true := by simp; omega
        go_wp2
        go_loopw [9, 10] (fun u j wr => ∃ k : Nat, k ≤ n ∧ j = .int .i64 k ∧ u = .int .i64 (sumD xs s d k) ∧ Below wo.heap.size wo wr) (fun _ j _ => n - (intOf j).toNat)
        case atStart => exact ⟨0, Nat.zero_le _, rfl, rfl, Below.refl _ _⟩
        case round =>
          obtain ⟨k, hk, rfl, rfl, hI⟩ := hrel
          by_cases hlt : k < n
          · obtain ⟨b, off, rfl, hb, hc⟩ := (hA.below (bel_tr hB hI)).cell (by omega)
            have HC := Lib.hid (hc k hlt); clear hc
            have hkl : k < xs.length := by rw [L.out]; exact hlt
            have hok := racksOk_at OK.out hkl
            obtain ⟨s0, s1⟩ := sumD_bound OK.out s d k (by omega)
            obtain ⟨_, hh, _, _⟩ := okB_facts hok
            obtain ⟨hh0, hh1⟩ := hh
            have hr2 : (nt xs k).Room ≤ 2000 := (okB_facts hok).1.2
            rcases Bool.eq_false_or_eq_true (readyB s (nt xs k) d) with q | q
            · have Q := Lib.hid (sumD_yes q)
              have QB := Lib.hid q; clear q
              go_wp2_with fail
              refine (asB (l15Ready_any _ _ (nt xs k) s d _ HC.out hok hs HW.out hd) QB.out).mono ?_; rintro e w2 ⟨rfl, hb2⟩
              obtain ⟨_, hq1, _, _⟩ := HC.out.keep (w' := w2) fun o => hb2.cell (p := ⟨b, o, none⟩) hb
              have hI2 := bel_tr hI hb2
              have hz2 := hb2.size
              go_wp2_with fail
              go_roundw
              case rel => exact ⟨k + 1, by omega, by go_num, by rw [Q.out], hI2⟩
              case measure => simp [intOf]; omega
            · have Q := Lib.hid (sumD_no (xs := xs) q)
              have QB := Lib.hid q; clear q
              go_wp2_with fail
              refine (asB (l15Ready_any _ _ (nt xs k) s d _ HC.out hok hs HW.out hd) QB.out).mono ?_; rintro e w2 ⟨rfl, hb2⟩
              obtain ⟨_, hq1, _, _⟩ := HC.out.keep (w' := w2) fun o => hb2.cell (p := ⟨b, o, none⟩) hb
              have hI2 := bel_tr hI hb2
              have hz2 := hb2.size
              go_wp2_with fail
              go_roundw
              case rel => exact ⟨k + 1, by omega, by go_num, by rw [Q.out], hI2⟩
              case measure => simp [intOf]; omega
          · obtain rfl : n = k := by omega
            have HO2 := Lib.hid (HO.out.below hI)
            have hB2 := bel_tr hB hI
            have hz2 := hB2.size
            have HL := Lib.hid (show ((dryL xs s n d).map (Value.int .i64)).length ≤ 1048576 by rw [List.length_map, dryL_len]; omega)
            go_wp2_with (at_builtin; refine wpList_app1 _ rfl (.tmp 43) (.tmp 45) 24 rfl (w.heap.size) 2 (.int .i64 0) 8 Try.underlying24 info_i64 rfl _ _ (HO2.out) rfl _ _ rfl (by simp) rfl HL.out (by omega) hz2 ?_; intro v3 w3 hO3 hk3 hs3)
            have hB3 := hk3 (Nat.le_refl _) hB2
            go_roundw
            case rel => exact ⟨d + 1, by omega, by go_num, by rw [dryL_next]; exact hO3, hB3⟩
            case measure => simp [intOf]; omega
      · obtain rfl : d = s.size + 1 := by omega
        go_wp2
        go_ret2
        rw [E.out, G.out]
        exact ListC.own HO.out (by rw [dryL_len]; omega) (Nat.le_refl _) hB
  · have E := Lib.hid (show dbL xs s = [] by rw [dbL, if_neg g])
    have g3 : (bothC xs s != 0) = true := by simpa using g
    clear g
    go_enter Try.func41, Try.ntmps41
    go_wp2_with fail
    refine (l15Both_any _ _ _ xs s _ hA hs).mono ?_; rintro e w1 ⟨rfl, hb1⟩; have hz1 := hb1.size
    go_wp2_with fail
    go_ret2
    rw [E.out]
    exact ListC.none_ hb1

set_option maxHeartbeats 2000000 in
theorem implDryBricks_any (A : Option Addr) (n c : Nat) (xs : List Rack) (s : ByteArray) (w : World) (hA : RackS w A n xs) (hs : s.size ≤ 9223372036854775807) :
    Calls Try.prog 40 #[.slice A n c, .string s] w (ListC (dbL xs s) (bothC xs s) w) := by
  have hn := hA.bound
  by_cases g : bothC xs s = 0
  · have E := Lib.hid (show dbL xs s = dryL xs s n (s.size + 1) by rw [dbL, if_pos g, hA.len])
    obtain ⟨ok, hW⟩ := bothC_zero g
    have h20 := racksOk_len ok
    rw [hA.len] at h20
    have h60 := (weatherB_parts hW).1
    have L := Lib.hid hA.len
    have OK := Lib.hid ok; have HW := Lib.hid hW; have G := Lib.hid g; clear ok hW g
    go_enter Try.func40, Try.ntmps40
    go_wp2_with fail
    refine (racksCode_any _ _ _ xs s _ hA hs).mono ?_; rw [G.out]; rintro e w1 ⟨rfl, hb1⟩; have hz1 := hb1.size
    go_wp2_with fail
    go_loopw [7, 22] (fun v i wr => ∃ d : Nat, d ≤ s.size + 1 ∧ i = .int .i64 d ∧ OwnS wr w.heap.size 2 v ((dryL xs s n d).map (.int .i64)) ∧ Below w.heap.size w wr) (fun _ i _ => s.size + 1 - (intOf i).toNat)
    case atStart => exact ⟨0, Nat.zero_le _, rfl, OwnS.made' (by omega) rfl, bel_tr hb1 (by go_grown)⟩
    case round =>
      obtain ⟨d, hd1, rfl, hO, hB⟩ := hrel
      have HO := Lib.hid hO; clear hO
      have hz := hB.size
      obtain ⟨wo, rfl⟩ : ∃ wo : World, wo = wr := ⟨_, rfl⟩
      by_cases hdt : d < s.size + 1
      · have hd : d ≤ s.size := by omega
        have hdd : decide ((d : Int) < (s.size : Int) + 1) = true := by simp; omega
        go_wp2
        go_loopw [9, 27] (fun u j wr => ∃ k : Nat, k ≤ n ∧ j = .int .i64 k ∧ u = .int .i64 (sumD xs s d k) ∧ Below wo.heap.size wo wr) (fun _ j _ => n - (intOf j).toNat)
        case atStart => exact ⟨0, Nat.zero_le _, rfl, rfl, Below.refl _ _⟩
        case round =>
          obtain ⟨k, hk, rfl, rfl, hI⟩ := hrel
          by_cases hlt : k < n
          · obtain ⟨b, off, rfl, hb, hc⟩ := (hA.below (bel_tr hB hI)).cell (by omega)
            obtain ⟨hq0, hq1, hq2, hq3⟩ := hc k hlt
            clear hc
            have hkl : k < xs.length := by rw [L.out]; exact hlt
            have hok := racksOk_at OK.out hkl
            obtain ⟨s0, s1⟩ := sumD_bound OK.out s d k (by omega)
            obtain ⟨_, hh, _, _⟩ := okB_facts hok
            obtain ⟨hh0, hh1⟩ := hh
            have hr2 : (nt xs k).Room ≤ 2000 := (okB_facts hok).1.2
            rcases Bool.eq_false_or_eq_true (readyB s (nt xs k) d) with q | q
            · have Q := Lib.hid (sumD_yes q)
              have QB := Lib.hid q; clear q
              go_wp2_with fail
              refine (asB (isReady_any (nt xs k) s d _ hok hs HW.out hd) QB.out).mono ?_; rintro e w2 ⟨rfl, hb2⟩
              obtain ⟨hc2, hf2⟩ := bcell hb2
              have k1 : w2.cell? ⟨wr.heap.size, 1, none⟩ = some (.int .i64 (nt xs k).Holds) := by rw [hc2 _ _ (by simp)]; go_simp
              have hz2 : wr.heap.size < w2.heap.size := by have := hb2.size; simp at this; omega
              have hI2 := bel_tr (hI.alloc (Nat.le_trans (Nat.le_refl _) hI.size) _) hb2
              clear hc2 hf2
              go_wp2_with fail
              go_roundw
              case rel => exact ⟨k + 1, by omega, by go_num, by rw [Q.out], hI2⟩
              case measure => simp [intOf]; omega
            · have Q := Lib.hid (sumD_no (xs := xs) q)
              have QB := Lib.hid q; clear q
              go_wp2_with fail
              refine (asB (isReady_any (nt xs k) s d _ hok hs HW.out hd) QB.out).mono ?_; rintro e w2 ⟨rfl, hb2⟩
              obtain ⟨hc2, hf2⟩ := bcell hb2
              have k1 : w2.cell? ⟨wr.heap.size, 1, none⟩ = some (.int .i64 (nt xs k).Holds) := by rw [hc2 _ _ (by simp)]; go_simp
              have hz2 : wr.heap.size < w2.heap.size := by have := hb2.size; simp at this; omega
              have hI2 := bel_tr (hI.alloc (Nat.le_trans (Nat.le_refl _) hI.size) _) hb2
              clear hc2 hf2
              go_wp2_with fail
              go_roundw
              case rel => exact ⟨k + 1, by omega, by go_num, by rw [Q.out], hI2⟩
              case measure => simp [intOf]; omega
          · obtain rfl : n = k := by omega
            have HO2 := Lib.hid (HO.out.below hI)
            have hB2 := bel_tr hB hI
            have hz2 := hB2.size
            have HL := Lib.hid (show ((dryL xs s n d).map (Value.int .i64)).length ≤ 1048576 by rw [List.length_map, dryL_len]; omega)
            go_wp2_with (at_builtin; refine wpList_app1 _ rfl (.tmp 40) (.tmp 42) 24 rfl (w.heap.size) 2 (.int .i64 0) 8 Try.underlying24 info_i64 rfl _ _ (HO2.out) rfl _ _ rfl (by simp) rfl HL.out (by omega) hz2 ?_; intro v3 w3 hO3 hk3 hs3)
            have hB3 := hk3 (Nat.le_refl _) hB2
            go_roundw
            case rel => exact ⟨d + 1, by omega, by go_num, by rw [dryL_next]; exact hO3, hB3⟩
            case measure => simp [intOf]; omega
      · obtain rfl : d = s.size + 1 := by omega
        go_wp2
        go_ret2
        rw [E.out, G.out]
        exact ListC.own HO.out (by rw [dryL_len]; omega) (Nat.le_refl _) hB
  · have E := Lib.hid (show dbL xs s = [] by rw [dbL, if_neg g])
    have g3 : (bothC xs s != 0) = true := by simpa using g
    clear g
    go_enter Try.func40, Try.ntmps40
    go_wp2_with fail
    refine (racksCode_any _ _ _ xs s _ hA hs).mono ?_; rintro e w1 ⟨rfl, hb1⟩; have hz1 := hb1.size
    go_wp2_with fail
    go_ret2
    rw [E.out]
    exact ListC.none_ hb1

end Go.Proofs.Ytoghgbbepjpelaa
