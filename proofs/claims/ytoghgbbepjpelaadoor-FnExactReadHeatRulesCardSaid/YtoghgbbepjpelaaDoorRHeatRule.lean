/- Records of type HeatRule; slices of them that read as lists; the contracts of the law's own helpers over them: szHeatRuleS, toHeatRule, toHeatRuleS, eqHeatRule, eqHeatRuleS. -/
import Derived.Test.YtoghgbbepjpelaaDoorRows
import Derived.Test.YtoghgbbepjpelaaDoorRc
namespace Go.Proofs.YtoghgbbepjpelaaDoor
open Go.RowKit
set_option linter.unusedVariables false

structure HeatRule where
  Upto : Int
  Rise : Int
  Hold : Int
instance : Inhabited HeatRule := ⟨⟨0, 0, 0⟩⟩
/-- The record that begins at a cell. -/
def HeatRule.lies (r : HeatRule) (w : World) (b o : Nat) : Prop := w.cell? ⟨b, o, none⟩ = some (.int .i64 r.Upto) ∧ w.cell? ⟨b, o + 1, none⟩ = some (.int .i64 r.Rise) ∧ w.cell? ⟨b, o + 2, none⟩ = some (.int .i64 r.Hold)
theorem HeatRule.lies.keep {r : HeatRule} {w w' : World} {b o : Nat} (h : r.lies w b o) (hk : ∀ o, w'.cell? ⟨b, o, none⟩ = w.cell? ⟨b, o, none⟩) : r.lies w' b o := by
  obtain ⟨h0, h1, h2⟩ := h
  exact ⟨(hk _).trans h0, (hk _).trans h1, (hk _).trans h2⟩
/-- A slice of records that reads as a list. -/
structure HeatRuleS (w : World) (A : Option Addr) (n : Nat) (xs : List HeatRule) : Prop where
  len : xs.length = n
  bound : n ≤ 1048576
  cell : 0 < n → ∃ b off, A = some ⟨b, off, none⟩ ∧ b < w.heap.size ∧ ∀ j, j < n → (nt xs j).lies w b (off + j * 3)
theorem HeatRuleS.below {w w' : World} {A : Option Addr} {n : Nat} {xs : List HeatRule} (h : HeatRuleS w A n xs) (hb : Below w.heap.size w w') : HeatRuleS w' A n xs :=
  ⟨h.len, h.bound, fun hn => by
    obtain ⟨b, off, e, hlt, hc⟩ := h.cell hn
    exact ⟨b, off, e, Nat.lt_of_lt_of_le hlt hb.size, fun j hj => (hc j hj).keep fun o => hb.cell (p := ⟨b, o, none⟩) hlt⟩⟩
theorem HeatRuleS.alloc {w : World} {A : Option Addr} {n : Nat} {xs : List HeatRule} (h : HeatRuleS w A n xs) (o : Obj) : HeatRuleS (w.alloc o) A n xs := h.below ((Below.refl _ _).alloc (Nat.le_refl _) _)
theorem HeatRuleS.drewN {w : World} {A : Option Addr} {n : Nat} {xs : List HeatRule} (h : HeatRuleS w A n xs) (q : Nat) : HeatRuleS (w.drewN q) A n xs := h.below (below_drewN (Below.refl _ _) q)
theorem HeatRuleS.nil (w : World) : HeatRuleS w none 0 [] := ⟨rfl, by omega, fun h => absurd h (by omega)⟩
/-- The same that came in: only the length's own bound. -/
structure HeatRuleRaw (w : World) (A : Option Addr) (n : Nat) (xs : List HeatRule) : Prop where
  len : xs.length = n
  bound : n ≤ 9223372036854775807
  cell : 0 < n → ∃ b off, A = some ⟨b, off, none⟩ ∧ b < w.heap.size ∧ ∀ j, j < n → (nt xs j).lies w b (off + j * 3)
theorem HeatRuleRaw.recs {w : World} {A : Option Addr} {n : Nat} {xs : List HeatRule} (h : HeatRuleRaw w A n xs) (hn : n ≤ 1048576) : HeatRuleS w A n xs := ⟨h.len, hn, h.cell⟩
theorem HeatRuleRaw.below {w w' : World} {A : Option Addr} {n : Nat} {xs : List HeatRule} (h : HeatRuleRaw w A n xs) (hb : Below w.heap.size w w') : HeatRuleRaw w' A n xs :=
  ⟨h.len, h.bound, fun hn => by
    obtain ⟨b, off, e, hlt, hc⟩ := h.cell hn
    exact ⟨b, off, e, Nat.lt_of_lt_of_le hlt hb.size, fun j hj => (hc j hj).keep fun o => hb.cell (p := ⟨b, o, none⟩) hlt⟩⟩

theorem toHeatRule_any (r : HeatRule) (w : World) :
    Calls Tryd.prog 37 #[.agg #[.int .i64 r.Upto, .int .i64 r.Rise, .int .i64 r.Hold]] w fun e w' => e = .returned (.agg #[.int .i64 r.Upto, .int .i64 r.Rise, .int .i64 r.Hold]) ∧ Below w.heap.size w w' := by
  go_enter Tryd.func37, Tryd.ntmps37
  go_wp2
  refine bodyPost_ret (v := .agg #[.int .i64 r.Upto, .int .i64 r.Rise, .int .i64 r.Hold]) (by simp [results, Tryd.results37, go_sem]) rfl ⟨rfl, ?_⟩
  go_grown
theorem eqHeatRule_any (r : HeatRule) (w : World) :
    Calls Tryd.prog 41 #[.agg #[.int .i64 r.Upto, .int .i64 r.Rise, .int .i64 r.Hold], .agg #[.int .i64 r.Upto, .int .i64 r.Rise, .int .i64 r.Hold]] w fun e w' => e = .returned (.bool true) ∧ Below w.heap.size w w' := by
  have hUpto : (r.Upto != r.Upto) = false := by simp
  have hRise : (r.Rise != r.Rise) = false := by simp
  have hHold : (r.Hold != r.Hold) = false := by simp
  go_enter Tryd.func41, Tryd.ntmps41
  go_wp2
  go_ret
  exact ⟨rfl, by go_grown⟩
theorem szHeatRule_big (A : Option Addr) (n c : Nat) (left : Int) (w : World) (hn : n ≤ 9223372036854775807) (h0 : 0 ≤ left) (h1 : left ≤ 1048576) (h : left < n) :
    Calls Tryd.prog 6 #[.slice A n c, .int .i64 left] w fun e w' => e = .returned (.int .i64 (-1)) ∧ w = w' := by
  go_enter Tryd.func6, Tryd.ntmps6
  go_wp2
  go_ret
  exact ⟨rfl, rfl⟩
theorem szHeatRule_ok (A : Option Addr) (n c : Nat) (left : Int) (w : World) (hn : n ≤ 9223372036854775807) (h0 : 0 ≤ left) (h1 : left ≤ 1048576) (h : ¬ left < n) :
    Calls Tryd.prog 6 #[.slice A n c, .int .i64 left] w fun e w' => e = .returned (.int .i64 (left - n)) ∧ w = w' := by
  go_enter Tryd.func6, Tryd.ntmps6
  go_wp2
  go_ret
  exact ⟨rfl, rfl⟩

def HeatRule.at (r : HeatRule) (i : Nat) : Value := if i = 0 then .int .i64 r.Upto else if i = 1 then .int .i64 r.Rise else .int .i64 r.Hold
/-- The cells of a row of records of which the first k are laid. -/
def HeatRule.cells (xs : List HeatRule) (k : Nat) (c : Nat) : Value := if c / 3 < k then (nt xs (c / 3)).at (c % 3) else (default : HeatRule).at (c % 3)
theorem info_HeatRule : (Tryd.prog.info? 58).map (fun i => (i.zero, i.size, i.bytes)) = some (some (.agg #[.int .i64 0, .int .i64 0, .int .i64 0]), 3, 24) := by kernel_rfl
theorem HeatRule.cells_step (xs : List HeatRule) (k c : Nat) : HeatRule.cells xs (k + 1) c = if c = k * 3 + 2 then (nt xs k).at 2 else if c = k * 3 + 1 then (nt xs k).at 1 else if c = k * 3 + 0 then (nt xs k).at 0 else HeatRule.cells xs k c := by
  by_cases h2 : c = k * 3 + 2
  · subst h2
    have e1 : (k * 3 + 2) / 3 = k := by omega
    have e2 : (k * 3 + 2) % 3 = 2 := by omega
    simp only [HeatRule.cells, e1, e2, if_pos (Nat.lt_succ_self k)]; simp
  by_cases h1 : c = k * 3 + 1
  · subst h1
    have e1 : (k * 3 + 1) / 3 = k := by omega
    have e2 : (k * 3 + 1) % 3 = 1 := by omega
    simp only [HeatRule.cells, e1, e2, if_pos (Nat.lt_succ_self k)]; simp
  by_cases h0 : c = k * 3 + 0
  · subst h0
    have e1 : (k * 3 + 0) / 3 = k := by omega
    have e2 : (k * 3 + 0) % 3 = 0 := by omega
    simp only [HeatRule.cells, e1, e2, if_pos (Nat.lt_succ_self k)]; simp
  · simp only [h0, h1, h2, if_false, HeatRule.cells]
    have e : c / 3 < k + 1 ↔ c / 3 < k := by omega
    simp only [e]
set_option maxHeartbeats 400000 in
theorem toHeatRuleS_fz (A : Option Addr) (n c : Nat) (xs : List HeatRule) (w : World) (hA : HeatRuleS w A n xs) :
    Calls Tryd.prog 8 #[.slice A n c] w fun e w' => ∃ b, e = .returned (.slice (some ⟨b, 0, none⟩) n n) ∧ w.heap.size ≤ b ∧ b < w'.heap.size ∧ (∀ o, w'.frozen? ⟨b, o, none⟩ = false) ∧ HeatRuleS w' (some ⟨b, 0, none⟩) n xs ∧ Below w.heap.size w w' := by
  have hn := hA.bound
  have hmk := fun (W : World) => make_recs (P := Tryd.prog) 25 58 _ 3 24 Tryd.underlying25 info_HeatRule n (by omega) (by omega) W
  simp only [Value.cells] at hmk
  go_enter Tryd.func8, Tryd.ntmps8
  go_wp2
  clear hmk
  go_loopw [4] (fun i wr => ∃ k : Nat, k ≤ n ∧ i = .int .i64 k ∧ wr.rowIs w.heap.size 58 (n * 3) (HeatRule.cells xs k) ∧ Below w.heap.size w wr) (fun i _ => n - (intOf i).toNat)
  case atStart => exact ⟨0, Nat.zero_le _, rfl, rows_made w _ (n * 3) 58 _ (fun i hi => by
    have h : i % 3 < 3 := Nat.mod_lt _ (by omega)
    simp only [HeatRule.cells, Nat.not_lt_zero, if_false]
    show _ = some ((HeatRule.at default) (i % 3))
    generalize i % 3 = r at h
    match r, h with
    | 0, _ => rfl
    | 1, _ => rfl
    | 2, _ => rfl), (Below.refl _ _).alloc (Nat.le_refl _) _⟩
  case round =>
    obtain ⟨k, hk, rfl, hrow, hbel⟩ := hrel
    have HR := Lib.hid hrow; clear hrow
    by_cases hlt : k < n
    · obtain ⟨b, off, rfl, hb, hc⟩ := hA.cell (by omega)
      obtain ⟨hq0, hq1, hq2⟩ := (hc k hlt).keep (w' := wr) fun o => hbel.cell (p := ⟨b, o, none⟩) hb
      clear hc

      obtain ⟨u0, hu0⟩ : ∃ u, wr.cell? ⟨w.heap.size, k * 3, none⟩ = some u := ⟨_, HR.out.cell (by omega)⟩
      have hg0 := HR.out.frozen (k * 3)
      obtain ⟨u1, hu1⟩ : ∃ u, wr.cell? ⟨w.heap.size, k * 3 + 1, none⟩ = some u := ⟨_, HR.out.cell (by omega)⟩
      have hg1 := HR.out.frozen (k * 3 + 1)
      obtain ⟨u2, hu2⟩ : ∃ u, wr.cell? ⟨w.heap.size, k * 3 + 2, none⟩ = some u := ⟨_, HR.out.cell (by omega)⟩
      have hg2 := HR.out.frozen (k * 3 + 2)
      have hlr := HR.out.lt
      go_wp2_with fail
      refine (toHeatRule_any (nt xs k) _).mono ?_; rintro e w1 ⟨rfl, hb1⟩
      obtain ⟨hc1, hf1⟩ := bcell hb1
      have HR1 := Lib.hid (row_below HR.out hb1)
      have hz1 := hb1.size
      go_wp2
      go_roundw
      case rel => exact ⟨k + 1, by omega, by go_num, (((HR1.out.set (k * 3) _).set (k * 3 + 1) _).set (k * 3 + 2) _).congr fun j hj => by
        rw [HeatRule.cells_step xs k j]; simp [HeatRule.at], (((bel_tr hbel hb1).setCell (Nat.le_refl _) _).setCell (Nat.le_refl _) _).setCell (Nat.le_refl _) _⟩
      case measure => simp [intOf]; omega
    · go_wp2
      go_ret
      obtain rfl : k = n := by omega
      exact ⟨_, rfl, Nat.le_refl _, HR.out.lt, HR.out.frozen, ⟨hA.len, hA.bound, fun hn0 => ⟨_, _, rfl, HR.out.lt, fun j hj => by
        simp only [Nat.zero_add]
        refine ⟨?_, ?_, ?_⟩
        · rw [HR.out.cell (by omega)]; have e1 : (j * 3) / 3 = j := by omega
          have e2 : (j * 3) % 3 = 0 := by omega
          simp [HeatRule.cells, e1, e2, hj, HeatRule.at]
        · rw [HR.out.cell (by omega)]; have e1 : (j * 3 + 1) / 3 = j := by omega
          have e2 : (j * 3 + 1) % 3 = 1 := by omega
          simp [HeatRule.cells, e1, e2, hj, HeatRule.at]
        · rw [HR.out.cell (by omega)]; have e1 : (j * 3 + 2) / 3 = j := by omega
          have e2 : (j * 3 + 2) % 3 = 2 := by omega
          simp [HeatRule.cells, e1, e2, hj, HeatRule.at]
        ⟩⟩, hbel⟩
theorem toHeatRuleS_any (A : Option Addr) (n c : Nat) (xs : List HeatRule) (w : World) (hA : HeatRuleS w A n xs) :
    Calls Tryd.prog 8 #[.slice A n c] w fun e w' => ∃ b, e = .returned (.slice (some ⟨b, 0, none⟩) n n) ∧ w.heap.size ≤ b ∧ HeatRuleS w' (some ⟨b, 0, none⟩) n xs ∧ Below w.heap.size w w' :=
  (toHeatRuleS_fz A n c xs w hA).mono fun e w' ⟨b, h1, h2, _, _, h5, h6⟩ => ⟨b, h1, h2, h5, h6⟩

theorem eqHeatRuleS_any (A B : Option Addr) (n m c d : Nat) (xs : List HeatRule) (w : World) (hA : HeatRuleS w A n xs) (hB : HeatRuleS w B m xs) :
    Calls Tryd.prog 10 #[.slice A n c, .slice B m d] w fun e w' => e = .returned (.bool true) ∧ Below w.heap.size w w' := by
  have hn := hA.bound
  obtain rfl : n = m := by rw [← hA.len, hB.len]
  go_enter Tryd.func10, Tryd.ntmps10
  go_wp2
  go_loopw [5] (fun i wr => ∃ k : Nat, k ≤ n ∧ i = .int .i64 k ∧ Below w.heap.size w wr) (fun i _ => n - (intOf i).toNat)
  case atStart => exact ⟨0, Nat.zero_le _, rfl, Below.refl _ _⟩
  case round =>
    obtain ⟨k, hk, rfl, hbel⟩ := hrel
    by_cases hlt : k < n
    · obtain ⟨b, off, rfl, hb, hc⟩ := (hA.below hbel).cell (by omega)
      obtain ⟨b2, off2, rfl, hb2, hc2⟩ := (hB.below hbel).cell (by omega)
      obtain ⟨hq0, hq1, hq2⟩ := hc k hlt
      obtain ⟨hp0, hp1, hp2⟩ := hc2 k hlt
      clear hc hc2
      go_wp2_with fail
      go_region_held3 (fun w' => w'.cell? ⟨b, off + k * 3, none⟩ = some (.int .i64 (nt xs k).Upto) ∧ w'.cell? ⟨b, off + k * 3 + 1, none⟩ = some (.int .i64 (nt xs k).Rise) ∧ w'.cell? ⟨b, off + k * 3 + 2, none⟩ = some (.int .i64 (nt xs k).Hold) ∧ w'.cell? ⟨b2, off2 + k * 3, none⟩ = some (.int .i64 (nt xs k).Upto) ∧ w'.cell? ⟨b2, off2 + k * 3 + 1, none⟩ = some (.int .i64 (nt xs k).Rise) ∧ w'.cell? ⟨b2, off2 + k * 3 + 2, none⟩ = some (.int .i64 (nt xs k).Hold) ∧ b < w'.heap.size ∧ b2 < w'.heap.size ∧ Below wr.heap.size wr w')
        ((try refine ⟨?_, ?_, ?_, ?_, ?_, ?_, ?_, ?_, ?_⟩) <;> (first | go_keep | (go_grown; done) | (go_split_ands; first | exact (hb1.cell (p := ⟨_, _, none⟩) (by assumption)).trans (by assumption) | exact Nat.lt_of_lt_of_le (by assumption) hb1.size | exact bel_tr (by assumption) hb1)))
        (first | (go_at_call 41; refine (eqHeatRule_any _ _).mono ?_; rintro e w1 ⟨rfl, hb1⟩))
      all_goals
        go_wp2
        go_roundw
        case rel => exact ⟨k + 1, by omega, by go_num, bel_tr hbel (by go_split_ands; assumption)⟩
        case measure => simp [intOf]; omega
    · go_wp2
      go_ret
      exact ⟨rfl, hbel⟩
end Go.Proofs.YtoghgbbepjpelaaDoor
