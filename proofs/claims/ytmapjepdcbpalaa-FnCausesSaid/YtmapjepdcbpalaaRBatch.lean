/- Records of type Batch; slices of them that read as lists; the contracts of the law's own helpers over them: szBatchS, toBatch, toBatchS, eqBatch, eqBatchS. -/
import Derived.Test.YtmapjepdcbpalaaRows
import Derived.Test.YtmapjepdcbpalaaRc
namespace Go.Proofs.Ytmapjepdcbpalaa
open Go.RowKit
set_option linter.unusedVariables false

structure Batch where
  Clay : Int
  Mould : Int
  Chamber : Int
  Bad : Bool
instance : Inhabited Batch := ⟨⟨0, 0, 0, false⟩⟩
/-- The record that begins at a cell. -/
def Batch.lies (r : Batch) (w : World) (b o : Nat) : Prop := w.cell? ⟨b, o, none⟩ = some (.int .i64 r.Clay) ∧ w.cell? ⟨b, o + 1, none⟩ = some (.int .i64 r.Mould) ∧ w.cell? ⟨b, o + 2, none⟩ = some (.int .i64 r.Chamber) ∧ w.cell? ⟨b, o + 3, none⟩ = some (.bool r.Bad)
theorem Batch.lies.keep {r : Batch} {w w' : World} {b o : Nat} (h : r.lies w b o) (hk : ∀ o, w'.cell? ⟨b, o, none⟩ = w.cell? ⟨b, o, none⟩) : r.lies w' b o := by
  obtain ⟨h0, h1, h2, h3⟩ := h
  exact ⟨(hk _).trans h0, (hk _).trans h1, (hk _).trans h2, (hk _).trans h3⟩
/-- A slice of records that reads as a list. -/
structure BatchS (w : World) (A : Option Addr) (n : Nat) (xs : List Batch) : Prop where
  len : xs.length = n
  bound : n ≤ 1048576
  cell : 0 < n → ∃ b off, A = some ⟨b, off, none⟩ ∧ b < w.heap.size ∧ ∀ j, j < n → (nt xs j).lies w b (off + j * 4)
theorem BatchS.below {w w' : World} {A : Option Addr} {n : Nat} {xs : List Batch} (h : BatchS w A n xs) (hb : Below w.heap.size w w') : BatchS w' A n xs :=
  ⟨h.len, h.bound, fun hn => by
    obtain ⟨b, off, e, hlt, hc⟩ := h.cell hn
    exact ⟨b, off, e, Nat.lt_of_lt_of_le hlt hb.size, fun j hj => (hc j hj).keep fun o => hb.cell (p := ⟨b, o, none⟩) hlt⟩⟩
theorem BatchS.alloc {w : World} {A : Option Addr} {n : Nat} {xs : List Batch} (h : BatchS w A n xs) (o : Obj) : BatchS (w.alloc o) A n xs := h.below ((Below.refl _ _).alloc (Nat.le_refl _) _)
theorem BatchS.drewN {w : World} {A : Option Addr} {n : Nat} {xs : List Batch} (h : BatchS w A n xs) (q : Nat) : BatchS (w.drewN q) A n xs := h.below (below_drewN (Below.refl _ _) q)
theorem BatchS.nil (w : World) : BatchS w none 0 [] := ⟨rfl, by omega, fun h => absurd h (by omega)⟩
/-- The same that came in: only the length's own bound. -/
structure BatchRaw (w : World) (A : Option Addr) (n : Nat) (xs : List Batch) : Prop where
  len : xs.length = n
  bound : n ≤ 9223372036854775807
  cell : 0 < n → ∃ b off, A = some ⟨b, off, none⟩ ∧ b < w.heap.size ∧ ∀ j, j < n → (nt xs j).lies w b (off + j * 4)
theorem BatchRaw.recs {w : World} {A : Option Addr} {n : Nat} {xs : List Batch} (h : BatchRaw w A n xs) (hn : n ≤ 1048576) : BatchS w A n xs := ⟨h.len, hn, h.cell⟩
theorem BatchRaw.below {w w' : World} {A : Option Addr} {n : Nat} {xs : List Batch} (h : BatchRaw w A n xs) (hb : Below w.heap.size w w') : BatchRaw w' A n xs :=
  ⟨h.len, h.bound, fun hn => by
    obtain ⟨b, off, e, hlt, hc⟩ := h.cell hn
    exact ⟨b, off, e, Nat.lt_of_lt_of_le hlt hb.size, fun j hj => (hc j hj).keep fun o => hb.cell (p := ⟨b, o, none⟩) hlt⟩⟩

theorem toBatch_any (r : Batch) (w : World) :
    Calls Try.prog 47 #[.agg #[.int .i64 r.Clay, .int .i64 r.Mould, .int .i64 r.Chamber, .bool r.Bad]] w fun e w' => e = .returned (.agg #[.int .i64 r.Clay, .int .i64 r.Mould, .int .i64 r.Chamber, .bool r.Bad]) ∧ Below w.heap.size w w' := by
  go_enter Try.func47, Try.ntmps47
  go_wp2
  refine bodyPost_ret (v := .agg #[.int .i64 r.Clay, .int .i64 r.Mould, .int .i64 r.Chamber, .bool r.Bad]) (by simp [results, Try.results47, go_sem]) rfl ⟨rfl, ?_⟩
  go_grown
theorem eqBatch_any (r : Batch) (w : World) :
    Calls Try.prog 49 #[.agg #[.int .i64 r.Clay, .int .i64 r.Mould, .int .i64 r.Chamber, .bool r.Bad], .agg #[.int .i64 r.Clay, .int .i64 r.Mould, .int .i64 r.Chamber, .bool r.Bad]] w fun e w' => e = .returned (.bool true) ∧ Below w.heap.size w w' := by
  have hClay : (r.Clay != r.Clay) = false := by simp
  have hMould : (r.Mould != r.Mould) = false := by simp
  have hChamber : (r.Chamber != r.Chamber) = false := by simp
  have hBad : (r.Bad != r.Bad) = false := by simp
  go_enter Try.func49, Try.ntmps49
  go_wp2
  go_ret
  exact ⟨rfl, by go_grown⟩
theorem szBatch_big (A : Option Addr) (n c : Nat) (left : Int) (w : World) (hn : n ≤ 9223372036854775807) (h0 : 0 ≤ left) (h1 : left ≤ 1048576) (h : left < n) :
    Calls Try.prog 13 #[.slice A n c, .int .i64 left] w fun e w' => e = .returned (.int .i64 (-1)) ∧ w = w' := by
  go_enter Try.func13, Try.ntmps13
  go_wp2
  go_ret
  exact ⟨rfl, rfl⟩
theorem szBatch_ok (A : Option Addr) (n c : Nat) (left : Int) (w : World) (hn : n ≤ 9223372036854775807) (h0 : 0 ≤ left) (h1 : left ≤ 1048576) (h : ¬ left < n) :
    Calls Try.prog 13 #[.slice A n c, .int .i64 left] w fun e w' => e = .returned (.int .i64 (left - n)) ∧ w = w' := by
  go_enter Try.func13, Try.ntmps13
  go_wp2
  go_ret
  exact ⟨rfl, rfl⟩

def Batch.at (r : Batch) (i : Nat) : Value := if i = 0 then .int .i64 r.Clay else if i = 1 then .int .i64 r.Mould else if i = 2 then .int .i64 r.Chamber else .bool r.Bad
/-- The cells of a row of records of which the first k are laid. -/
def Batch.cells (xs : List Batch) (k : Nat) (c : Nat) : Value := if c / 4 < k then (nt xs (c / 4)).at (c % 4) else (default : Batch).at (c % 4)
theorem info_Batch : (Try.prog.info? 59).map (fun i => (i.zero, i.size, i.bytes)) = some (some (.agg #[.int .i64 0, .int .i64 0, .int .i64 0, .bool false]), 4, 32) := by kernel_rfl
theorem Batch.cells_step (xs : List Batch) (k c : Nat) : Batch.cells xs (k + 1) c = if c = k * 4 + 3 then (nt xs k).at 3 else if c = k * 4 + 2 then (nt xs k).at 2 else if c = k * 4 + 1 then (nt xs k).at 1 else if c = k * 4 + 0 then (nt xs k).at 0 else Batch.cells xs k c := by
  by_cases h3 : c = k * 4 + 3
  · subst h3
    have e1 : (k * 4 + 3) / 4 = k := by omega
    have e2 : (k * 4 + 3) % 4 = 3 := by omega
    simp only [Batch.cells, e1, e2, if_pos (Nat.lt_succ_self k)]; simp
  by_cases h2 : c = k * 4 + 2
  · subst h2
    have e1 : (k * 4 + 2) / 4 = k := by omega
    have e2 : (k * 4 + 2) % 4 = 2 := by omega
    simp only [Batch.cells, e1, e2, if_pos (Nat.lt_succ_self k)]; simp
  by_cases h1 : c = k * 4 + 1
  · subst h1
    have e1 : (k * 4 + 1) / 4 = k := by omega
    have e2 : (k * 4 + 1) % 4 = 1 := by omega
    simp only [Batch.cells, e1, e2, if_pos (Nat.lt_succ_self k)]; simp
  by_cases h0 : c = k * 4 + 0
  · subst h0
    have e1 : (k * 4 + 0) / 4 = k := by omega
    have e2 : (k * 4 + 0) % 4 = 0 := by omega
    simp only [Batch.cells, e1, e2, if_pos (Nat.lt_succ_self k)]; simp
  · simp only [h0, h1, h2, h3, if_false, Batch.cells]
    have e : c / 4 < k + 1 ↔ c / 4 < k := by omega
    simp only [e]
set_option maxHeartbeats 400000 in
theorem toBatchS_fz (A : Option Addr) (n c : Nat) (xs : List Batch) (w : World) (hA : BatchS w A n xs) :
    Calls Try.prog 15 #[.slice A n c] w fun e w' => ∃ b, e = .returned (.slice (some ⟨b, 0, none⟩) n n) ∧ w.heap.size ≤ b ∧ b < w'.heap.size ∧ (∀ o, w'.frozen? ⟨b, o, none⟩ = false) ∧ BatchS w' (some ⟨b, 0, none⟩) n xs ∧ Below w.heap.size w w' := by
  have hn := hA.bound
  have hmk := fun (W : World) => make_recs (P := Try.prog) 25 59 _ 4 32 Try.underlying25 info_Batch n (by omega) (by omega) W
  simp only [Value.cells] at hmk
  go_enter Try.func15, Try.ntmps15
  go_wp2
  clear hmk
  go_loopw [4] (fun i wr => ∃ k : Nat, k ≤ n ∧ i = .int .i64 k ∧ wr.rowIs w.heap.size 59 (n * 4) (Batch.cells xs k) ∧ Below w.heap.size w wr) (fun i _ => n - (intOf i).toNat)
  case atStart => exact ⟨0, Nat.zero_le _, rfl, rows_made w _ (n * 4) 59 _ (fun i hi => by
    have h : i % 4 < 4 := Nat.mod_lt _ (by omega)
    simp only [Batch.cells, Nat.not_lt_zero, if_false]
    show _ = some ((Batch.at default) (i % 4))
    generalize i % 4 = r at h
    match r, h with
    | 0, _ => rfl
    | 1, _ => rfl
    | 2, _ => rfl
    | 3, _ => rfl), (Below.refl _ _).alloc (Nat.le_refl _) _⟩
  case round =>
    obtain ⟨k, hk, rfl, hrow, hbel⟩ := hrel
    have HR := Lib.hid hrow; clear hrow
    by_cases hlt : k < n
    · obtain ⟨b, off, rfl, hb, hc⟩ := hA.cell (by omega)
      obtain ⟨hq0, hq1, hq2, hq3⟩ := (hc k hlt).keep (w' := wr) fun o => hbel.cell (p := ⟨b, o, none⟩) hb
      clear hc

      obtain ⟨u0, hu0⟩ : ∃ u, wr.cell? ⟨w.heap.size, k * 4, none⟩ = some u := ⟨_, HR.out.cell (by omega)⟩
      have hg0 := HR.out.frozen (k * 4)
      obtain ⟨u1, hu1⟩ : ∃ u, wr.cell? ⟨w.heap.size, k * 4 + 1, none⟩ = some u := ⟨_, HR.out.cell (by omega)⟩
      have hg1 := HR.out.frozen (k * 4 + 1)
      obtain ⟨u2, hu2⟩ : ∃ u, wr.cell? ⟨w.heap.size, k * 4 + 2, none⟩ = some u := ⟨_, HR.out.cell (by omega)⟩
      have hg2 := HR.out.frozen (k * 4 + 2)
      obtain ⟨u3, hu3⟩ : ∃ u, wr.cell? ⟨w.heap.size, k * 4 + 3, none⟩ = some u := ⟨_, HR.out.cell (by omega)⟩
      have hg3 := HR.out.frozen (k * 4 + 3)
      have hlr := HR.out.lt
      go_wp2_with fail
      refine (toBatch_any (nt xs k) _).mono ?_; rintro e w1 ⟨rfl, hb1⟩
      obtain ⟨hc1, hf1⟩ := bcell hb1
      have HR1 := Lib.hid (row_below HR.out hb1)
      have hz1 := hb1.size
      go_wp2
      go_roundw
      case rel => exact ⟨k + 1, by omega, by go_num, ((((HR1.out.set (k * 4) _).set (k * 4 + 1) _).set (k * 4 + 2) _).set (k * 4 + 3) _).congr fun j hj => by
        rw [Batch.cells_step xs k j]; simp [Batch.at], ((((bel_tr hbel hb1).setCell (Nat.le_refl _) _).setCell (Nat.le_refl _) _).setCell (Nat.le_refl _) _).setCell (Nat.le_refl _) _⟩
      case measure => simp [intOf]; omega
    · go_wp2
      go_ret
      obtain rfl : k = n := by omega
      exact ⟨_, rfl, Nat.le_refl _, HR.out.lt, HR.out.frozen, ⟨hA.len, hA.bound, fun hn0 => ⟨_, _, rfl, HR.out.lt, fun j hj => by
        simp only [Nat.zero_add]
        refine ⟨?_, ?_, ?_, ?_⟩
        · rw [HR.out.cell (by omega)]; have e1 : (j * 4) / 4 = j := by omega
          have e2 : (j * 4) % 4 = 0 := by omega
          simp [Batch.cells, e1, e2, hj, Batch.at]
        · rw [HR.out.cell (by omega)]; have e1 : (j * 4 + 1) / 4 = j := by omega
          have e2 : (j * 4 + 1) % 4 = 1 := by omega
          simp [Batch.cells, e1, e2, hj, Batch.at]
        · rw [HR.out.cell (by omega)]; have e1 : (j * 4 + 2) / 4 = j := by omega
          have e2 : (j * 4 + 2) % 4 = 2 := by omega
          simp [Batch.cells, e1, e2, hj, Batch.at]
        · rw [HR.out.cell (by omega)]; have e1 : (j * 4 + 3) / 4 = j := by omega
          have e2 : (j * 4 + 3) % 4 = 3 := by omega
          simp [Batch.cells, e1, e2, hj, Batch.at]
        ⟩⟩, hbel⟩
theorem toBatchS_any (A : Option Addr) (n c : Nat) (xs : List Batch) (w : World) (hA : BatchS w A n xs) :
    Calls Try.prog 15 #[.slice A n c] w fun e w' => ∃ b, e = .returned (.slice (some ⟨b, 0, none⟩) n n) ∧ w.heap.size ≤ b ∧ BatchS w' (some ⟨b, 0, none⟩) n xs ∧ Below w.heap.size w w' :=
  (toBatchS_fz A n c xs w hA).mono fun e w' ⟨b, h1, h2, _, _, h5, h6⟩ => ⟨b, h1, h2, h5, h6⟩

theorem eqBatchS_any (A B : Option Addr) (n m c d : Nat) (xs : List Batch) (w : World) (hA : BatchS w A n xs) (hB : BatchS w B m xs) :
    Calls Try.prog 17 #[.slice A n c, .slice B m d] w fun e w' => e = .returned (.bool true) ∧ Below w.heap.size w w' := by
  have hn := hA.bound
  obtain rfl : n = m := by rw [← hA.len, hB.len]
  go_enter Try.func17, Try.ntmps17
  go_wp2
  go_loopw [5] (fun i wr => ∃ k : Nat, k ≤ n ∧ i = .int .i64 k ∧ Below w.heap.size w wr) (fun i _ => n - (intOf i).toNat)
  case atStart => exact ⟨0, Nat.zero_le _, rfl, Below.refl _ _⟩
  case round =>
    obtain ⟨k, hk, rfl, hbel⟩ := hrel
    by_cases hlt : k < n
    · obtain ⟨b, off, rfl, hb, hc⟩ := (hA.below hbel).cell (by omega)
      obtain ⟨b2, off2, rfl, hb2, hc2⟩ := (hB.below hbel).cell (by omega)
      obtain ⟨hq0, hq1, hq2, hq3⟩ := hc k hlt
      obtain ⟨hp0, hp1, hp2, hp3⟩ := hc2 k hlt
      clear hc hc2
      go_wp2_with fail
      go_region_held3 (fun w' => w'.cell? ⟨b, off + k * 4, none⟩ = some (.int .i64 (nt xs k).Clay) ∧ w'.cell? ⟨b, off + k * 4 + 1, none⟩ = some (.int .i64 (nt xs k).Mould) ∧ w'.cell? ⟨b, off + k * 4 + 2, none⟩ = some (.int .i64 (nt xs k).Chamber) ∧ w'.cell? ⟨b, off + k * 4 + 3, none⟩ = some (.bool (nt xs k).Bad) ∧ w'.cell? ⟨b2, off2 + k * 4, none⟩ = some (.int .i64 (nt xs k).Clay) ∧ w'.cell? ⟨b2, off2 + k * 4 + 1, none⟩ = some (.int .i64 (nt xs k).Mould) ∧ w'.cell? ⟨b2, off2 + k * 4 + 2, none⟩ = some (.int .i64 (nt xs k).Chamber) ∧ w'.cell? ⟨b2, off2 + k * 4 + 3, none⟩ = some (.bool (nt xs k).Bad) ∧ b < w'.heap.size ∧ b2 < w'.heap.size ∧ Below wr.heap.size wr w')
        ((try refine ⟨?_, ?_, ?_, ?_, ?_, ?_, ?_, ?_, ?_, ?_, ?_⟩) <;> (first | go_keep | (go_grown; done) | (go_split_ands; first | exact (hb1.cell (p := ⟨_, _, none⟩) (by assumption)).trans (by assumption) | exact Nat.lt_of_lt_of_le (by assumption) hb1.size | exact bel_tr (by assumption) hb1)))
        (first | (go_at_call 49; refine (eqBatch_any _ _).mono ?_; rintro e w1 ⟨rfl, hb1⟩))
      all_goals
        go_wp2
        go_roundw
        case rel => exact ⟨k + 1, by omega, by go_num, bel_tr hbel (by go_split_ands; assumption)⟩
        case measure => simp [intOf]; omega
    · go_wp2
      go_ret
      exact ⟨rfl, hbel⟩
end Go.Proofs.Ytmapjepdcbpalaa
