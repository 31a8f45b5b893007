/- Records of type Tested; slices of them that read as lists; the contracts of the law's own helpers over them: szTestedS, toTested, toTestedS, eqTested, eqTestedS. -/
import Derived.Test.YtnibggkjgpgljaaRows
import Derived.Test.YtnibggkjgpgljaaRc
namespace Go.Proofs.Ytnibggkjgpgljaa
open Go.RowKit
set_option linter.unusedVariables false

structure Tested where
  Strength : Int
  Water : Int
instance : Inhabited Tested := ⟨⟨0, 0⟩⟩
/-- The record that begins at a cell. -/
def Tested.lies (r : Tested) (w : World) (b o : Nat) : Prop := w.cell? ⟨b, o, none⟩ = some (.int .i64 r.Strength) ∧ w.cell? ⟨b, o + 1, none⟩ = some (.int .i64 r.Water)
theorem Tested.lies.keep {r : Tested} {w w' : World} {b o : Nat} (h : r.lies w b o) (hk : ∀ o, w'.cell? ⟨b, o, none⟩ = w.cell? ⟨b, o, none⟩) : r.lies w' b o := by
  obtain ⟨h0, h1⟩ := h
  exact ⟨(hk _).trans h0, (hk _).trans h1⟩
/-- A slice of records that reads as a list. -/
structure TestedS (w : World) (A : Option Addr) (n : Nat) (xs : List Tested) : Prop where
  len : xs.length = n
  bound : n ≤ 1048576
  cell : 0 < n → ∃ b off, A = some ⟨b, off, none⟩ ∧ b < w.heap.size ∧ ∀ j, j < n → (nt xs j).lies w b (off + j * 2)
theorem TestedS.below {w w' : World} {A : Option Addr} {n : Nat} {xs : List Tested} (h : TestedS w A n xs) (hb : Below w.heap.size w w') : TestedS w' A n xs :=
  ⟨h.len, h.bound, fun hn => by
    obtain ⟨b, off, e, hlt, hc⟩ := h.cell hn
    exact ⟨b, off, e, Nat.lt_of_lt_of_le hlt hb.size, fun j hj => (hc j hj).keep fun o => hb.cell (p := ⟨b, o, none⟩) hlt⟩⟩
theorem TestedS.alloc {w : World} {A : Option Addr} {n : Nat} {xs : List Tested} (h : TestedS w A n xs) (o : Obj) : TestedS (w.alloc o) A n xs := h.below ((Below.refl _ _).alloc (Nat.le_refl _) _)
theorem TestedS.drewN {w : World} {A : Option Addr} {n : Nat} {xs : List Tested} (h : TestedS w A n xs) (q : Nat) : TestedS (w.drewN q) A n xs := h.below (below_drewN (Below.refl _ _) q)
theorem TestedS.nil (w : World) : TestedS w none 0 [] := ⟨rfl, by omega, fun h => absurd h (by omega)⟩
/-- The same that came in: only the length's own bound. -/
structure TestedRaw (w : World) (A : Option Addr) (n : Nat) (xs : List Tested) : Prop where
  len : xs.length = n
  bound : n ≤ 9223372036854775807
  cell : 0 < n → ∃ b off, A = some ⟨b, off, none⟩ ∧ b < w.heap.size ∧ ∀ j, j < n → (nt xs j).lies w b (off + j * 2)
theorem TestedRaw.recs {w : World} {A : Option Addr} {n : Nat} {xs : List Tested} (h : TestedRaw w A n xs) (hn : n ≤ 1048576) : TestedS w A n xs := ⟨h.len, hn, h.cell⟩
theorem TestedRaw.below {w w' : World} {A : Option Addr} {n : Nat} {xs : List Tested} (h : TestedRaw w A n xs) (hb : Below w.heap.size w w') : TestedRaw w' A n xs :=
  ⟨h.len, h.bound, fun hn => by
    obtain ⟨b, off, e, hlt, hc⟩ := h.cell hn
    exact ⟨b, off, e, Nat.lt_of_lt_of_le hlt hb.size, fun j hj => (hc j hj).keep fun o => hb.cell (p := ⟨b, o, none⟩) hlt⟩⟩

theorem toTested_any (r : Tested) (w : World) :
    Calls Try.prog 46 #[.agg #[.int .i64 r.Strength, .int .i64 r.Water]] w fun e w' => e = .returned (.agg #[.int .i64 r.Strength, .int .i64 r.Water]) ∧ Below w.heap.size w w' := by
  go_enter Try.func46, Try.ntmps46
  go_wp2
  refine bodyPost_ret (v := .agg #[.int .i64 r.Strength, .int .i64 r.Water]) (by simp [results, Try.results46, go_sem]) rfl ⟨rfl, ?_⟩
  go_grown
theorem eqTested_any (r : Tested) (w : World) :
    Calls Try.prog 48 #[.agg #[.int .i64 r.Strength, .int .i64 r.Water], .agg #[.int .i64 r.Strength, .int .i64 r.Water]] w fun e w' => e = .returned (.bool true) ∧ Below w.heap.size w w' := by
  have hStrength : (r.Strength != r.Strength) = false := by simp
  have hWater : (r.Water != r.Water) = false := by simp
  go_enter Try.func48, Try.ntmps48
  go_wp2
  go_ret
  exact ⟨rfl, by go_grown⟩
theorem szTested_big (A : Option Addr) (n c : Nat) (left : Int) (w : World) (hn : n ≤ 9223372036854775807) (h0 : 0 ≤ left) (h1 : left ≤ 1048576) (h : left < n) :
    Calls Try.prog 13 #[.slice A n c, .int .i64 left] w fun e w' => e = .returned (.int .i64 (-1)) ∧ w = w' := by
  go_enter Try.func13, Try.ntmps13
  go_wp2
  go_ret
  exact ⟨rfl, rfl⟩
theorem szTested_ok (A : Option Addr) (n c : Nat) (left : Int) (w : World) (hn : n ≤ 9223372036854775807) (h0 : 0 ≤ left) (h1 : left ≤ 1048576) (h : ¬ left < n) :
    Calls Try.prog 13 #[.slice A n c, .int .i64 left] w fun e w' => e = .returned (.int .i64 (left - n)) ∧ w = w' := by
  go_enter Try.func13, Try.ntmps13
  go_wp2
  go_ret
  exact ⟨rfl, rfl⟩

def Tested.at (r : Tested) (i : Nat) : Value := if i = 0 then .int .i64 r.Strength else .int .i64 r.Water
/-- The cells of a row of records of which the first k are laid. -/
def Tested.cells (xs : List Tested) (k : Nat) (c : Nat) : Value := if c / 2 < k then (nt xs (c / 2)).at (c % 2) else (default : Tested).at (c % 2)
theorem info_Tested : (Try.prog.info? 63).map (fun i => (i.zero, i.size, i.bytes)) = some (some (.agg #[.int .i64 0, .int .i64 0]), 2, 16) := by kernel_rfl
theorem Tested.cells_step (xs : List Tested) (k c : Nat) : Tested.cells xs (k + 1) c = if c = k * 2 + 1 then (nt xs k).at 1 else if c = k * 2 + 0 then (nt xs k).at 0 else Tested.cells xs k c := by
  by_cases h1 : c = k * 2 + 1
  · subst h1
    have e1 : (k * 2 + 1) / 2 = k := by omega
    have e2 : (k * 2 + 1) % 2 = 1 := by omega
    simp only [Tested.cells, e1, e2, if_pos (Nat.lt_succ_self k)]; simp
  by_cases h0 : c = k * 2 + 0
  · subst h0
    have e1 : (k * 2 + 0) / 2 = k := by omega
    have e2 : (k * 2 + 0) % 2 = 0 := by omega
    simp only [Tested.cells, e1, e2, if_pos (Nat.lt_succ_self k)]; simp
  · simp only [h0, h1, if_false, Tested.cells]
    have e : c / 2 < k + 1 ↔ c / 2 < k := by omega
    simp only [e]
set_option maxHeartbeats 400000 in
theorem toTestedS_fz (A : Option Addr) (n c : Nat) (xs : List Tested) (w : World) (hA : TestedS w A n xs) :
    Calls Try.prog 15 #[.slice A n c] w fun e w' => ∃ b, e = .returned (.slice (some ⟨b, 0, none⟩) n n) ∧ w.heap.size ≤ b ∧ b < w'.heap.size ∧ (∀ o, w'.frozen? ⟨b, o, none⟩ = false) ∧ TestedS w' (some ⟨b, 0, none⟩) n xs ∧ Below w.heap.size w w' := by
  have hn := hA.bound
  have hmk := fun (W : World) => make_recs (P := Try.prog) 25 63 _ 2 16 Try.underlying25 info_Tested n (by omega) (by omega) W
  simp only [Value.cells] at hmk
  go_enter Try.func15, Try.ntmps15
  go_wp2
  clear hmk
  go_loopw [4] (fun i wr => ∃ k : Nat, k ≤ n ∧ i = .int .i64 k ∧ wr.rowIs w.heap.size 63 (n * 2) (Tested.cells xs k) ∧ Below w.heap.size w wr) (fun i _ => n - (intOf i).toNat)
  case atStart => exact ⟨0, Nat.zero_le _, rfl, rows_made w _ (n * 2) 63 _ (fun i hi => by
    have h : i % 2 < 2 := Nat.mod_lt _ (by omega)
    simp only [Tested.cells, Nat.not_lt_zero, if_false]
    show _ = some ((Tested.at default) (i % 2))
    generalize i % 2 = r at h
    match r, h with
    | 0, _ => rfl
    | 1, _ => rfl), (Below.refl _ _).alloc (Nat.le_refl _) _⟩
  case round =>
    obtain ⟨k, hk, rfl, hrow, hbel⟩ := hrel
    have HR := Lib.hid hrow; clear hrow
    by_cases hlt : k < n
    · obtain ⟨b, off, rfl, hb, hc⟩ := hA.cell (by omega)
      obtain ⟨hq0, hq1⟩ := (hc k hlt).keep (w' := wr) fun o => hbel.cell (p := ⟨b, o, none⟩) hb
      clear hc

      obtain ⟨u0, hu0⟩ : ∃ u, wr.cell? ⟨w.heap.size, k * 2, none⟩ = some u := ⟨_, HR.out.cell (by omega)⟩
      have hg0 := HR.out.frozen (k * 2)
      obtain ⟨u1, hu1⟩ : ∃ u, wr.cell? ⟨w.heap.size, k * 2 + 1, none⟩ = some u := ⟨_, HR.out.cell (by omega)⟩
      have hg1 := HR.out.frozen (k * 2 + 1)
      have hlr := HR.out.lt
      go_wp2_with fail
      refine (toTested_any (nt xs k) _).mono ?_; rintro e w1 ⟨rfl, hb1⟩
      obtain ⟨hc1, hf1⟩ := bcell hb1
      have HR1 := Lib.hid (row_below HR.out hb1)
      have hz1 := hb1.size
      go_wp2
      go_roundw
      case rel => exact ⟨k + 1, by omega, by go_num, ((HR1.out.set (k * 2) _).set (k * 2 + 1) _).congr fun j hj => by
        rw [Tested.cells_step xs k j]; simp [Tested.at], ((bel_tr hbel hb1).setCell (Nat.le_refl _) _).setCell (Nat.le_refl _) _⟩
      case measure => simp [intOf]; omega
    · go_wp2
      go_ret
      obtain rfl : k = n := by omega
      exact ⟨_, rfl, Nat.le_refl _, HR.out.lt, HR.out.frozen, ⟨hA.len, hA.bound, fun hn0 => ⟨_, _, rfl, HR.out.lt, fun j hj => by
        simp only [Nat.zero_add]
        refine ⟨?_, ?_⟩
        · rw [HR.out.cell (by omega)]; have e1 : (j * 2) / 2 = j := by omega
          have e2 : (j * 2) % 2 = 0 := by omega
          simp [Tested.cells, e1, e2, hj, Tested.at]
        · rw [HR.out.cell (by omega)]; have e1 : (j * 2 + 1) / 2 = j := by omega
          have e2 : (j * 2 + 1) % 2 = 1 := by omega
          simp [Tested.cells, e1, e2, hj, Tested.at]
        ⟩⟩, hbel⟩
theorem toTestedS_any (A : Option Addr) (n c : Nat) (xs : List Tested) (w : World) (hA : TestedS w A n xs) :
    Calls Try.prog 15 #[.slice A n c] w fun e w' => ∃ b, e = .returned (.slice (some ⟨b, 0, none⟩) n n) ∧ w.heap.size ≤ b ∧ TestedS w' (some ⟨b, 0, none⟩) n xs ∧ Below w.heap.size w w' :=
  (toTestedS_fz A n c xs w hA).mono fun e w' ⟨b, h1, h2, _, _, h5, h6⟩ => ⟨b, h1, h2, h5, h6⟩

theorem eqTestedS_any (A B : Option Addr) (n m c d : Nat) (xs : List Tested) (w : World) (hA : TestedS w A n xs) (hB : TestedS w B m xs) :
    Calls Try.prog 17 #[.slice A n c, .slice B m d] w fun e w' => e = .returned (.bool true) ∧ Below w.heap.size w w' := by
  have hn := hA.bound
  obtain rfl : n = m := by rw [← hA.len, hB.len]
  go_enter Try.func17, Try.ntmps17
  go_wp2
  go_loopw [5] (fun i wr => ∃ k : Nat, k ≤ n ∧ i = .int .i64 k ∧ Below w.heap.size w wr) (fun i _ => n - (intOf i).toNat)
  case atStart => exact ⟨0, Nat.zero_le _, rfl, Below.refl _ _⟩
  case round =>
    obtain ⟨k, hk, rfl, hbel⟩ := hrel
    by_cases hlt : k < n
    · obtain ⟨b, off, rfl, hb, hc⟩ := (hA.below hbel).cell (by omega)
      obtain ⟨b2, off2, rfl, hb2, hc2⟩ := (hB.below hbel).cell (by omega)
      obtain ⟨hq0, hq1⟩ := hc k hlt
      obtain ⟨hp0, hp1⟩ := hc2 k hlt
      clear hc hc2
      go_wp2_with fail
      go_region_held3 (fun w' => w'.cell? ⟨b, off + k * 2, none⟩ = some (.int .i64 (nt xs k).Strength) ∧ w'.cell? ⟨b, off + k * 2 + 1, none⟩ = some (.int .i64 (nt xs k).Water) ∧ w'.cell? ⟨b2, off2 + k * 2, none⟩ = some (.int .i64 (nt xs k).Strength) ∧ w'.cell? ⟨b2, off2 + k * 2 + 1, none⟩ = some (.int .i64 (nt xs k).Water) ∧ b < w'.heap.size ∧ b2 < w'.heap.size ∧ Below wr.heap.size wr w')
        ((try refine ⟨?_, ?_, ?_, ?_, ?_, ?_, ?_⟩) <;> (first | go_keep | (go_grown; done) | (go_split_ands; first | exact (hb1.cell (p := ⟨_, _, none⟩) (by assumption)).trans (by assumption) | exact Nat.lt_of_lt_of_le (by assumption) hb1.size | exact bel_tr (by assumption) hb1)))
        (first | (go_at_call 48; refine (eqTested_any _ _).mono ?_; rintro e w1 ⟨rfl, hb1⟩))
      all_goals
        go_wp2
        go_roundw
        case rel => exact ⟨k + 1, by omega, by go_num, bel_tr hbel (by go_split_ands; assumption)⟩
        case measure => simp [intOf]; omega
    · go_wp2
      go_ret
      exact ⟨rfl, hbel⟩
end Go.Proofs.Ytnibggkjgpgljaa
