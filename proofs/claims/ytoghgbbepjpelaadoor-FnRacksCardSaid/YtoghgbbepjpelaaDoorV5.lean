/- The contracts of SpreadBricks, the reference's and the program's. -/
import Derived.Test.YtoghgbbepjpelaaDoorV1
import Derived.Test.YtoghgbbepjpelaaDoorLs
namespace Go.Proofs.YtoghgbbepjpelaaDoor
open Go.RowKit
set_option linter.unusedVariables false

theorem racksOk_at' {xs : List Rack} (h : racksOk xs = true) {k : Nat} (hk : k < xs.length) : 1 ≤ (nt xs k).Room ∧ (nt xs k).Room ≤ 2000 := by
  simp only [racksOk, Bool.and_eq_true, List.all_eq_true] at h
  have h1 := h.1 _ (nt_mem hk)
  simp only [Rack.okB, Bool.and_eq_true, inB_true] at h1
  exact h1.1.1.1.1
theorem racksOk_len' {xs : List Rack} (h : racksOk xs = true) : xs.length ≤ 20 := by
  simp only [racksOk, Bool.and_eq_true, decide_eq_true_eq] at h
  exact h.2
theorem l00Min_any (a b : Int) (w : World) :
    Calls Tryd.prog 52 #[.int .i64 a, .int .i64 b] w fun e w' => e = .returned (.int .i64 (min a b)) ∧ w = w' := by
  go_enter Tryd.func52, Tryd.ntmps52
  go_wp2
  all_goals (go_ret; exact ⟨ret_int (by omega), rfl⟩)

/-- The best of the first k racks; -1 if there is none. -/
def pickN (xs : List Rack) (out : Nat → Int) : Nat → Int
  | 0 => -1
  | k + 1 => if (nt xs k).Holds = 0 ∧ out k = 0 ∧ (pickN xs out k < 0 ∨ (nt xs (pickN xs out k).toNat).Room < (nt xs k).Room) then (k : Int) else pickN xs out k
theorem pickN_bound (xs : List Rack) (out : Nat → Int) : ∀ k, -1 ≤ pickN xs out k ∧ pickN xs out k < (k : Int) := by
  intro k
  induction k with
  | zero => simp [pickN]
  | succ k ih => rw [pickN]; split <;> omega
theorem pick_yes0 {xs : List Rack} {out : Nat → Int} {k : Nat} (h1 : (nt xs k).Holds = 0) (h2 : out k = 0) (h3 : pickN xs out k = -1) : pickN xs out (k + 1) = (k : Int) := by
  rw [pickN, if_pos ⟨h1, h2, .inl (by omega)⟩]
theorem pick_yes {xs : List Rack} {out : Nat → Int} {k b : Nat} (h1 : (nt xs k).Holds = 0) (h2 : out k = 0) (h3 : pickN xs out k = (b : Int)) (h4 : (nt xs b).Room < (nt xs k).Room) : pickN xs out (k + 1) = (k : Int) := by
  rw [pickN, if_pos ⟨h1, h2, .inr (by rw [h3]; exact h4)⟩]
theorem pick_no1 {xs : List Rack} {out : Nat → Int} {k : Nat} {p : Int} (h1 : ¬ (nt xs k).Holds = 0) (h3 : pickN xs out k = p) : pickN xs out (k + 1) = p := by
  rw [pickN, if_neg (fun h => h1 h.1), h3]
theorem pick_no2 {xs : List Rack} {out : Nat → Int} {k : Nat} {p : Int} (h1 : ¬ out k = 0) (h3 : pickN xs out k = p) : pickN xs out (k + 1) = p := by
  rw [pickN, if_neg (fun h => h1 h.2.1), h3]
theorem pick_no3 {xs : List Rack} {out : Nat → Int} {k b : Nat} (h3 : pickN xs out k = (b : Int)) (h4 : ¬ (nt xs b).Room < (nt xs k).Room) : pickN xs out (k + 1) = (b : Int) := by
  rw [pickN, if_neg (fun h => h4 (by
    rcases h.2.2 with h5 | h5
    · omega
    · rw [h3] at h5; exact h5)), h3]
def upd (out : Nat → Int) (b : Nat) (v : Int) : Nat → Int := fun j => if j = b then v else out j
def stS (xs : List Rack) (n : Nat) (p : (Nat → Int) × Int) : (Nat → Int) × Int :=
  if p.2 ≤ 0 ∨ pickN xs p.1 n < 0 then p
  else (upd p.1 (pickN xs p.1 n).toNat (min p.2 (nt xs (pickN xs p.1 n).toNat).Room), p.2 - min p.2 (nt xs (pickN xs p.1 n).toNat).Room)
def stI (xs : List Rack) (n : Nat) (bricks : Int) : Nat → (Nat → Int) × Int
  | 0 => (fun _ => 0, bricks)
  | i + 1 => stS xs n (stI xs n bricks i)
theorem stI_next {xs : List Rack} {n i b : Nat} {bricks left : Int} {out : Nat → Int} (h : stI xs n bricks i = (out, left)) (h1 : 0 < left) (h2 : pickN xs out n = (b : Int)) :
    stI xs n bricks (i + 1) = (upd out b (min left (nt xs b).Room), left - min left (nt xs b).Room) := by
  rw [stI, h, stS, if_neg (by simp only [h2]; omega)]
  simp only [h2, Int.toNat_natCast]
theorem stI_stop {xs : List Rack} {n i : Nat} {bricks left : Int} {out : Nat → Int} (h : stI xs n bricks i = (out, left)) (h1 : left ≤ 0 ∨ pickN xs out n < 0) {N : Nat} (hN : i ≤ N) : stI xs n bricks N = (out, left) := by
  obtain ⟨m, rfl⟩ := Nat.exists_eq_add_of_le hN
  clear hN
  induction m with
  | zero => exact h
  | succ m ih => rw [← Nat.add_assoc, stI, ih, stS, if_pos h1]
def spE (xs : List Rack) (bricks : Int) : (Nat → Int) × Int := stI xs xs.length bricks bricks.toNat
def spC (xs : List Rack) (bricks : Int) : Int := if racksOk xs = true then (if inB bricks 0 40000 = true then (if (spE xs bricks).2 ≤ 0 then 0 else 5) else 2) else 1
def spL (xs : List Rack) (bricks : Int) : List Int := if spC xs bricks = 0 then (List.range xs.length).map (spE xs bricks).1 else []
theorem nth_map_range {n j : Nat} (out : Nat → Int) (h : j < n) : nth ((List.range n).map out) j = out j := by
  rw [nth_lt (by simpa using h)]; simp

set_option maxHeartbeats 4000000 in
theorem specSpreadBricks_any (A : Option Addr) (n c : Nat) (xs : List Rack) (bricks : Int) (w : World) (hA : RackS w A n xs) :
    Calls Tryd.prog 20 #[.slice A n c, .int .i64 bricks] w (ListC (spL xs bricks) (spC xs bricks) w) := by
  have hn := hA.bound
  rcases Bool.eq_false_or_eq_true (racksOk xs) with g | g
  · rcases Bool.eq_false_or_eq_true (inB bricks 0 40000) with g1 | g1
    · have h20 := racksOk_len' g
      rw [hA.len] at h20
      have hbr := inB_true.1 g1
      have hC : spC xs bricks = if (spE xs bricks).2 ≤ 0 then 0 else 5 := by rw [spC, if_pos g, if_pos g1]
      have HCC := Lib.hid hC; clear hC
      have HSE := Lib.hid (show spE xs bricks = stI xs n bricks bricks.toNat by rw [spE, hA.len])
      have L := Lib.hid hA.len
      have G := Lib.hid g; have G1 := Lib.hid g1; clear g g1
      have hmk := fun (W : World) => run_make_row' (P := Tryd.prog) 39 2 (.int .i64 0) 8 Tryd.underlying39 info_i64 rfl .i64 .i64 n (by omega) (by omega) W
      go_enter Tryd.func20, Tryd.ntmps20
      go_wp2_with fail
      refine (asB (l15Ok_any _ _ _ xs _ hA) G.out).mono ?_; rintro e w1 ⟨rfl, hb1⟩; have hz1 := hb1.size
      go_wp2_with fail
      refine (asB (in_any _ _ _ _) G1.out).mono ?_; rintro e w' ⟨rfl, rfl⟩
      go_wp2_with fail
      clear hmk
      go_loopw [7] (fun u wr => ∃ (i : Nat) (out : Nat → Int) (left : Int), u = .int .i64 left ∧ stI xs n bricks i = (out, left) ∧ 0 ≤ left ∧ left + i ≤ bricks ∧ wr.rowIs w1.heap.size 2 n (fun j => .int .i64 (out j)) ∧ Below w.heap.size w wr) (fun u _ => (intOf u).toNat)
      case atStart => exact ⟨0, _, bricks, rfl, rfl, by omega, by omega, World.rowIs_made w1 (.int .i64 0) n 2, bel_tr hb1 (by go_grown)⟩
      case round =>
        obtain ⟨i, out, left, rfl, hst, hl0, hl1, hrow, hB⟩ := hrel
        have HS := Lib.hid hst; clear hst
        have HR := Lib.hid hrow; clear hrow
        have hgl := HR.out.lt
        have hz := hB.size
        obtain ⟨wo, rfl⟩ : ∃ wo : World, wo = wr := ⟨_, rfl⟩
        by_cases hlt : 0 < left
        · go_wp2
          go_loopw [8, 9] (fun v j wr => ∃ (k : Nat) (p : Int), k ≤ n ∧ j = .int .i64 k ∧ v = .int .i64 p ∧ p = pickN xs out k ∧ Below wo.heap.size wo wr) (fun _ j _ => n - (intOf j).toNat)
          case atStart => exact ⟨0, -1, Nat.zero_le _, rfl, rfl, rfl, Below.refl _ _⟩
          case round =>
            obtain ⟨k, p, hk, rfl, rfl, hp, hI⟩ := hrel
            have HP := Lib.hid hp.symm
            obtain ⟨p0, p1⟩ := pickN_bound xs out k
            rw [← hp] at p0 p1
            clear hp
            by_cases hkt : k < n
            · obtain ⟨b, off, rfl, hb, hc⟩ := (hA.below (bel_tr hB hI)).cell (by omega)
              obtain ⟨hq0, hq1, hq2, hq3⟩ := hc k hkt
              have hg2 : w1.heap.size < wr.heap.size := Nat.lt_of_lt_of_le hgl hI.size
              have hrc : wr.cell? ⟨w1.heap.size, k, none⟩ = some (.int .i64 (out k)) := (row_below HR.out hI).cell hkt
              rcases Int.lt_or_le p 0 with hp0 | hp0
              · obtain rfl : p = -1 := by omega
                clear hc
                rcases Bool.eq_false_or_eq_true ((nt xs k).Holds == 0) with q1 | q1
                · rcases Bool.eq_false_or_eq_true (out k == 0) with q2 | q2
                  · have V := Lib.hid (pick_yes0 (by simpa using q1) (by simpa using q2) HP.out)
                    go_wp2_with fail
                    go_quiet (fail)
                    go_wp2
                    go_roundw
                    case rel => exact ⟨k + 1, (k : Int), by omega, by go_num, rfl, (V.out).symm, bel_tr hI (below_drewN (Below.refl _ _) _)⟩
                    case measure => simp [intOf]; omega
                  · have V := Lib.hid (pick_no2 (by simpa using q2) HP.out)
                    go_wp2_with fail
                    go_quiet (fail)
                    go_wp2
                    go_roundw
                    case rel => exact ⟨k + 1, (-1 : Int), by omega, by go_num, rfl, (V.out).symm, bel_tr hI (below_drewN (Below.refl _ _) _)⟩
                    case measure => simp [intOf]; omega
                · have V := Lib.hid (pick_no1 (by simpa using q1) HP.out)
                  go_wp2_with fail
                  go_quiet (fail)
                  go_wp2
                  go_roundw
                  case rel => exact ⟨k + 1, (-1 : Int), by omega, by go_num, rfl, (V.out).symm, bel_tr hI (below_drewN (Below.refl _ _) _)⟩
                  case measure => simp [intOf]; omega
              · obtain ⟨b2, rfl⟩ := Int.eq_ofNat_of_zero_le hp0
                obtain ⟨hr0, _, _, _⟩ := hc b2 (by omega)
                have hb2n : (b2 : Int) < (n : Int) := by omega
                clear hc
                rcases Bool.eq_false_or_eq_true ((nt xs k).Holds == 0) with q1 | q1
                · rcases Bool.eq_false_or_eq_true (out k == 0) with q2 | q2
                  · rcases Bool.eq_false_or_eq_true (decide ((nt xs b2).Room < (nt xs k).Room)) with q3 | q3
                    · have V := Lib.hid (pick_yes (by simpa using q1) (by simpa using q2) HP.out (by simpa using q3))
                      go_wp2_with fail
                      go_quiet (fail)
                      go_wp2
                      go_roundw
                      case rel => exact ⟨k + 1, (k : Int), by omega, by go_num, rfl, (V.out).symm, bel_tr hI (below_drewN (Below.refl _ _) _)⟩
                      case measure => simp [intOf]; omega
                    · have V := Lib.hid (pick_no3 (k := k) HP.out (by simpa using q3))
                      go_wp2_with fail
                      go_quiet (fail)
                      go_wp2
                      go_roundw
                      case rel => exact ⟨k + 1, (b2 : Int), by omega, by go_num, rfl, (V.out).symm, bel_tr hI (below_drewN (Below.refl _ _) _)⟩
                      case measure => simp [intOf]; omega
                  · have V := Lib.hid (pick_no2 (by simpa using q2) HP.out)
                    go_wp2_with fail
                    go_quiet (fail)
                    go_wp2
                    go_roundw
                    case rel => exact ⟨k + 1, (b2 : Int), by omega, by go_num, rfl, (V.out).symm, bel_tr hI (below_drewN (Below.refl _ _) _)⟩
                    case measure => simp [intOf]; omega
                · have V := Lib.hid (pick_no1 (by simpa using q1) HP.out)
                  go_wp2_with fail
                  go_quiet (fail)
                  go_wp2
                  go_roundw
                  case rel => exact ⟨k + 1, (b2 : Int), by omega, by go_num, rfl, (V.out).symm, bel_tr hI (below_drewN (Below.refl _ _) _)⟩
                  case measure => simp [intOf]; omega
            · obtain rfl : n = k := by omega
              have hB2 := bel_tr hB hI
              have HR2 := Lib.hid (row_below HR.out hI)
              rcases Int.lt_or_le p 0 with hp0 | hp0
              · have F := Lib.hid (stI_stop (N := bricks.toNat) HS.out (.inr (by rw [HP.out]; exact hp0)) (by omega))
                have R := Lib.hid (show spC xs bricks = 5 by rw [HCC.out, HSE.out, F.out, if_neg (by show ¬ left ≤ 0; omega)])
                have E := Lib.hid (show spL xs bricks = [] by rw [spL, R.out]; rfl)
                go_wp2_with fail
                go_ret2
                rw [E.out, R.out]
                exact ListC.none_ hB2
              · obtain ⟨b2, rfl⟩ := Int.eq_ofNat_of_zero_le hp0
                have hb2n : (b2 : Int) < (n : Int) := by omega
                have hb2m : b2 < n := by omega
                have hneg : ¬ (b2 : Int) < 0 := by omega
                obtain ⟨b, off, rfl, hb, hc⟩ := (hA.below hB2).cell (by omega)
                obtain ⟨hr0, _, _, _⟩ := hc b2 hb2m
                clear hc
                have hcd := HR2.out.cell hb2m
                have hfd := HR2.out.frozen b2
                obtain ⟨hR1, hR2⟩ := racksOk_at' G.out (k := b2) (by rw [L.out]; exact hb2m)
                obtain ⟨m, hm⟩ : ∃ m, min left (nt xs b2).Room = m := ⟨_, rfl⟩
                have hm1 : 1 ≤ m := by omega
                have hm2 : m ≤ left := by omega
                have HM := Lib.hid hm; clear hm
                have HN := Lib.hid (stI_next HS.out hlt HP.out)
                go_wp2_with fail
                refine (l00Min_any _ _ _).mono ?_; rw [HM.out]; rintro e w' ⟨rfl, rfl⟩
                go_wp2_with fail
                go_roundw
                case rel => exact ⟨i + 1, upd out b2 m, left - m, rfl, by rw [HN.out, HM.out], by omega, by omega, (HR2.out.set b2 _).congr fun j hj => by
                  show (if j = b2 then _ else _) = _
                  by_cases e : j = b2
                  · subst e; simp [upd]
                  · simp [upd, e], hB2.setCell (by omega) _⟩
                case measure => simp [intOf]; omega
        · have F := Lib.hid (stI_stop (N := bricks.toNat) HS.out (.inl (by omega)) (by omega))
          have R := Lib.hid (show spC xs bricks = 0 by rw [HCC.out, HSE.out, F.out, if_pos (by show left ≤ 0; omega)])
          have E := Lib.hid (show spL xs bricks = (List.range n).map out by rw [spL, if_pos R.out, HSE.out, F.out, L.out])
          go_wp2
          go_ret2
          rw [E.out, R.out]
          exact ListC.row (HR.out.congr fun j hj => by rw [nth_map_range out hj]) (by simp) hn hz1 hB
    · have R := Lib.hid (show spC xs bricks = 2 by rw [spC, if_pos g, g1]; rfl)
      have E := Lib.hid (show spL xs bricks = [] by rw [spL, R.out]; rfl)
      have G := Lib.hid g; have G1 := Lib.hid g1; clear g g1
      go_enter Tryd.func20, Tryd.ntmps20
      go_wp2_with fail
      refine (asB (l15Ok_any _ _ _ xs _ hA) G.out).mono ?_; rintro e w1 ⟨rfl, hb1⟩; have hz1 := hb1.size
      go_wp2_with fail
      refine (asB (in_any _ _ _ _) G1.out).mono ?_; rintro e w' ⟨rfl, rfl⟩
      go_wp2_with fail
      go_ret2
      rw [E.out, R.out]
      exact ListC.none_ hb1
  · have R := Lib.hid (show spC xs bricks = 1 by rw [spC, g]; rfl)
    have E := Lib.hid (show spL xs bricks = [] by rw [spL, R.out]; rfl)
    have G := Lib.hid g; clear g
    go_enter Tryd.func20, Tryd.ntmps20
    go_wp2_with fail
    refine (asB (l15Ok_any _ _ _ xs _ hA) G.out).mono ?_; rintro e w1 ⟨rfl, hb1⟩; have hz1 := hb1.size
    go_wp2_with fail
    go_ret2
    rw [E.out, R.out]
    exact ListC.none_ hb1

set_option maxHeartbeats 4000000 in
theorem implSpreadBricks_any (A : Option Addr) (n c : Nat) (xs : List Rack) (bricks : Int) (w : World) (hA : RackS w A n xs) :
    Calls Tryd.prog 19 #[.slice A n c, .int .i64 bricks] w (ListC (spL xs bricks) (spC xs bricks) w) := by
  have hn := hA.bound
  rcases Bool.eq_false_or_eq_true (racksOk xs) with g | g
  · rcases Bool.eq_false_or_eq_true (inB bricks 0 40000) with g1 | g1
    · have h20 := racksOk_len' g
      rw [hA.len] at h20
      have hbr := inB_true.1 g1
      have hC : spC xs bricks = if (spE xs bricks).2 ≤ 0 then 0 else 5 := by rw [spC, if_pos g, if_pos g1]
      have HCC := Lib.hid hC; clear hC
      have HSE := Lib.hid (show spE xs bricks = stI xs n bricks bricks.toNat by rw [spE, hA.len])
      have L := Lib.hid hA.len
      have G := Lib.hid g; have G1 := Lib.hid g1; clear g g1
      have hmk := fun (W : World) => run_make_row' (P := Tryd.prog) 39 2 (.int .i64 0) 8 Tryd.underlying39 info_i64 rfl .i64 .i64 n (by omega) (by omega) W
      go_enter Tryd.func19, Tryd.ntmps19
      go_wp2_with fail
      refine (asB (implValidRacks_any _ _ _ xs _ hA) G.out).mono ?_; rintro e w1 ⟨rfl, hb1⟩; have hz1 := hb1.size
      go_wp2_with fail
      refine (asB (within_any _ _ _ _) G1.out).mono ?_; rintro e w' ⟨rfl, rfl⟩
      go_wp2_with fail
      clear hmk
      go_loopw [1] (fun u wr => ∃ (i : Nat) (out : Nat → Int) (left : Int), u = .int .i64 left ∧ stI xs n bricks i = (out, left) ∧ 0 ≤ left ∧ left + i ≤ bricks ∧ wr.rowIs w1.heap.size 2 n (fun j => .int .i64 (out j)) ∧ Below w.heap.size w wr) (fun u _ => (intOf u).toNat)
      case atStart => exact ⟨0, _, bricks, rfl, rfl, by omega, by omega, World.rowIs_made w1 (.int .i64 0) n 2, bel_tr hb1 (by go_grown)⟩
      case round =>
        obtain ⟨i, out, left, rfl, hst, hl0, hl1, hrow, hB⟩ := hrel
        have HS := Lib.hid hst; clear hst
        have HR := Lib.hid hrow; clear hrow
        have hgl := HR.out.lt
        have hz := hB.size
        obtain ⟨wo, rfl⟩ : ∃ wo : World, wo = wr := ⟨_, rfl⟩
        by_cases hlt : 0 < left
        · go_wp2
          go_loopw [7, 25] (fun v j wr => ∃ (k : Nat) (p : Int), k ≤ n ∧ j = .int .i64 k ∧ v = .int .i64 p ∧ p = pickN xs out k ∧ Below wo.heap.size wo wr) (fun _ j _ => n - (intOf j).toNat)
          case atStart => exact ⟨0, -1, Nat.zero_le _, rfl, rfl, rfl, Below.refl _ _⟩
          case round =>
            obtain ⟨k, p, hk, rfl, rfl, hp, hI⟩ := hrel
            have HP := Lib.hid hp.symm
            obtain ⟨p0, p1⟩ := pickN_bound xs out k
            rw [← hp] at p0 p1
            clear hp
            by_cases hkt : k < n
            · obtain ⟨b, off, rfl, hb, hc⟩ := (hA.below (bel_tr hB hI)).cell (by omega)
              obtain ⟨hq0, hq1, hq2, hq3⟩ := hc k hkt
              have hg2 : w1.heap.size < wr.heap.size := Nat.lt_of_lt_of_le hgl hI.size
              have hrc : wr.cell? ⟨w1.heap.size, k, none⟩ = some (.int .i64 (out k)) := (row_below HR.out hI).cell hkt
              rcases Int.lt_or_le p 0 with hp0 | hp0
              · obtain rfl : p = -1 := by omega
                clear hc
                rcases Bool.eq_false_or_eq_true ((nt xs k).Holds == 0) with q1 | q1
                · rcases Bool.eq_false_or_eq_true (out k == 0) with q2 | q2
                  · have V := Lib.hid (pick_yes0 (by simpa using q1) (by simpa using q2) HP.out)
                    go_wp2_with fail
                    go_quiet (fail)
                    go_wp2
                    go_roundw
                    case rel => exact ⟨k + 1, (k : Int), by omega, by go_num, rfl, (V.out).symm, bel_tr hI (below_drewN ((Below.refl _ _).alloc (Nat.le_refl _) _) _)⟩
                    case measure => simp [intOf]; omega
                  · have V := Lib.hid (pick_no2 (by simpa using q2) HP.out)
                    go_wp2_with fail
                    go_quiet (fail)
                    go_wp2
                    go_roundw
                    case rel => exact ⟨k + 1, (-1 : Int), by omega, by go_num, rfl, (V.out).symm, bel_tr hI (below_drewN ((Below.refl _ _).alloc (Nat.le_refl _) _) _)⟩
                    case measure => simp [intOf]; omega
                · have V := Lib.hid (pick_no1 (by simpa using q1) HP.out)
                  go_wp2_with fail
                  go_quiet (fail)
                  go_wp2
                  go_roundw
                  case rel => exact ⟨k + 1, (-1 : Int), by omega, by go_num, rfl, (V.out).symm, bel_tr hI (below_drewN ((Below.refl _ _).alloc (Nat.le_refl _) _) _)⟩
                  case measure => simp [intOf]; omega
              · obtain ⟨b2, rfl⟩ := Int.eq_ofNat_of_zero_le hp0
                obtain ⟨hr0, _, _, _⟩ := hc b2 (by omega)
                have hb2n : (b2 : Int) < (n : Int) := by omega
                clear hc
                rcases Bool.eq_false_or_eq_true ((nt xs k).Holds == 0) with q1 | q1
                · rcases Bool.eq_false_or_eq_true (out k == 0) with q2 | q2
                  · rcases Bool.eq_false_or_eq_true (decide ((nt xs b2).Room < (nt xs k).Room)) with q3 | q3
                    · have V := Lib.hid (pick_yes (by simpa using q1) (by simpa using q2) HP.out (by simpa using q3))
                      go_wp2_with fail
                      go_quiet (fail)
                      go_wp2
                      go_roundw
                      case rel => exact ⟨k + 1, (k : Int), by omega, by go_num, rfl, (V.out).symm, bel_tr hI (below_drewN ((Below.refl _ _).alloc (Nat.le_refl _) _) _)⟩
                      case measure => simp [intOf]; omega
                    · have V := Lib.hid (pick_no3 (k := k) HP.out (by simpa using q3))
                      go_wp2_with fail
                      go_quiet (fail)
                      go_wp2
                      go_roundw
                      case rel => exact ⟨k + 1, (b2 : Int), by omega, by go_num, rfl, (V.out).symm, bel_tr hI (below_drewN ((Below.refl _ _).alloc (Nat.le_refl _) _) _)⟩
                      case measure => simp [intOf]; omega
                  · have V := Lib.hid (pick_no2 (by simpa using q2) HP.out)
                    go_wp2_with fail
                    go_quiet (fail)
                    go_wp2
                    go_roundw
                    case rel => exact ⟨k + 1, (b2 : Int), by omega, by go_num, rfl, (V.out).symm, bel_tr hI (below_drewN ((Below.refl _ _).alloc (Nat.le_refl _) _) _)⟩
                    case measure => simp [intOf]; omega
                · have V := Lib.hid (pick_no1 (by simpa using q1) HP.out)
                  go_wp2_with fail
                  go_quiet (fail)
                  go_wp2
                  go_roundw
                  case rel => exact ⟨k + 1, (b2 : Int), by omega, by go_num, rfl, (V.out).symm, bel_tr hI (below_drewN ((Below.refl _ _).alloc (Nat.le_refl _) _) _)⟩
                  case measure => simp [intOf]; omega
            · obtain rfl : n = k := by omega
              have hB2 := bel_tr hB hI
              have HR2 := Lib.hid (row_below HR.out hI)
              rcases Int.lt_or_le p 0 with hp0 | hp0
              · have F := Lib.hid (stI_stop (N := bricks.toNat) HS.out (.inr (by rw [HP.out]; exact hp0)) (by omega))
                have R := Lib.hid (show spC xs bricks = 5 by rw [HCC.out, HSE.out, F.out, if_neg (by show ¬ left ≤ 0; omega)])
                have E := Lib.hid (show spL xs bricks = [] by rw [spL, R.out]; rfl)
                go_wp2_with fail
                go_ret2
                rw [E.out, R.out]
                exact ListC.none_ hB2
              · obtain ⟨b2, rfl⟩ := Int.eq_ofNat_of_zero_le hp0
                have hb2n : (b2 : Int) < (n : Int) := by omega
                have hb2m : b2 < n := by omega
                have hneg : ¬ (b2 : Int) < 0 := by omega
                obtain ⟨b, off, rfl, hb, hc⟩ := (hA.below hB2).cell (by omega)
                obtain ⟨hr0, _, _, _⟩ := hc b2 hb2m
                clear hc
                have hcd := HR2.out.cell hb2m
                have hfd := HR2.out.frozen b2
                obtain ⟨hR1, hR2⟩ := racksOk_at' G.out (k := b2) (by rw [L.out]; exact hb2m)
                obtain ⟨m, hm⟩ : ∃ m, min left (nt xs b2).Room = m := ⟨_, rfl⟩
                have hm1 : 1 ≤ m := by omega
                have hm2 : m ≤ left := by omega
                have HM := Lib.hid hm; clear hm
                have HN := Lib.hid (stI_next HS.out hlt HP.out)
                have hmn : (if (nt xs b2).Room < left then (nt xs b2).Room else left) = m := by rw [← HM.out]; split <;> omega
                go_wp2_with fail
                go_roundw
                case rel => exact ⟨i + 1, upd out b2 m, left - m, rfl, by rw [HN.out, HM.out], by omega, by omega, (HR2.out.set b2 _).congr fun j hj => by
                  show (if j = b2 then _ else _) = _
                  by_cases e : j = b2
                  · subst e; simp [upd]
                  · simp [upd, e], hB2.setCell (by omega) _⟩
                case measure => simp [intOf]; omega
        · have F := Lib.hid (stI_stop (N := bricks.toNat) HS.out (.inl (by omega)) (by omega))
          have R := Lib.hid (show spC xs bricks = 0 by rw [HCC.out, HSE.out, F.out, if_pos (by show left ≤ 0; omega)])
          have E := Lib.hid (show spL xs bricks = (List.range n).map out by rw [spL, if_pos R.out, HSE.out, F.out, L.out])
          go_wp2
          go_ret2
          rw [E.out, R.out]
          exact ListC.row (HR.out.congr fun j hj => by rw [nth_map_range out hj]) (by simp) hn hz1 hB
    · have R := Lib.hid (show spC xs bricks = 2 by rw [spC, if_pos g, g1]; rfl)
      have E := Lib.hid (show spL xs bricks = [] by rw [spL, R.out]; rfl)
      have G := Lib.hid g; have G1 := Lib.hid g1; clear g g1
      go_enter Tryd.func19, Tryd.ntmps19
      go_wp2_with fail
      refine (asB (implValidRacks_any _ _ _ xs _ hA) G.out).mono ?_; rintro e w1 ⟨rfl, hb1⟩; have hz1 := hb1.size
      go_wp2_with fail
      refine (asB (within_any _ _ _ _) G1.out).mono ?_; rintro e w' ⟨rfl, rfl⟩
      go_wp2_with fail
      go_ret2
      rw [E.out, R.out]
      exact ListC.none_ hb1
  · have R := Lib.hid (show spC xs bricks = 1 by rw [spC, g]; rfl)
    have E := Lib.hid (show spL xs bricks = [] by rw [spL, R.out]; rfl)
    have G := Lib.hid g; clear g
    go_enter Tryd.func19, Tryd.ntmps19
    go_wp2_with fail
    refine (asB (implValidRacks_any _ _ _ xs _ hA) G.out).mono ?_; rintro e w1 ⟨rfl, hb1⟩; have hz1 := hb1.size
    go_wp2_with fail
    go_ret2
    rw [E.out, R.out]
    exact ListC.none_ hb1

end Go.Proofs.YtoghgbbepjpelaaDoor
