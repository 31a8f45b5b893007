/- Records of type Cause; slices of them that read as lists; the contracts of the law's own helpers over them: szCauseS, toCause, toCauseS, eqCause, eqCauseS. -/
import Derived.Test.YtmapjepdcbpalaaRows
import Derived.Test.YtmapjepdcbpalaaRc
namespace Go.Proofs.Ytmapjepdcbpalaa
open Go.RowKit
set_option linter.unusedVariables false

structure Cause where
  Kind : Int
  Number : Int
instance : Inhabited Cause := ⟨⟨0, 0⟩⟩
/-- The record that begins at a cell. -/
def Cause.lies (r : Cause) (w : World) (b o : Nat) : Prop := w.cell? ⟨b, o, none⟩ = some (.int .i64 r.Kind) ∧ w.cell? ⟨b, o + 1, none⟩ = some (.int .i64 r.Number)
theorem Cause.lies.keep {r : Cause} {w w' : World} {b o : Nat} (h : r.lies w b o) (hk : ∀ o, w'.cell? ⟨b, o, none⟩ = w.cell? ⟨b, o, none⟩) : r.lies w' b o := by
  obtain ⟨h0, h1⟩ := h
  exact ⟨(hk _).trans h0, (hk _).trans h1⟩
/-- A slice of records that reads as a list. -/
structure CauseS (w : World) (A : Option Addr) (n : Nat) (xs : List Cause) : Prop where
  len : xs.length = n
  bound : n ≤ 1048576
  cell : 0 < n → ∃ b off, A = some ⟨b, off, none⟩ ∧ b < w.heap.size ∧ ∀ j, j < n → (nt xs j).lies w b (off + j * 2)
theorem CauseS.below {w w' : World} {A : Option Addr} {n : Nat} {xs : List Cause} (h : CauseS w A n xs) (hb : Below w.heap.size w w') : CauseS w' A n xs :=
  ⟨h.len, h.bound, fun hn => by
    obtain ⟨b, off, e, hlt, hc⟩ := h.cell hn
    exact ⟨b, off, e, Nat.lt_of_lt_of_le hlt hb.size, fun j hj => (hc j hj).keep fun o => hb.cell (p := ⟨b, o, none⟩) hlt⟩⟩
theorem CauseS.alloc {w : World} {A : Option Addr} {n : Nat} {xs : List Cause} (h : CauseS w A n xs) (o : Obj) : CauseS (w.alloc o) A n xs := h.below ((Below.refl _ _).alloc (Nat.le_refl _) _)
theorem CauseS.drewN {w : World} {A : Option Addr} {n : Nat} {xs : List Cause} (h : CauseS w A n xs) (q : Nat) : CauseS (w.drewN q) A n xs := h.below (below_drewN (Below.refl _ _) q)
theorem CauseS.nil (w : World) : CauseS w none 0 [] := ⟨rfl, by omega, fun h => absurd h (by omega)⟩
/-- The same that came in: only the length's own bound. -/
structure CauseRaw (w : World) (A : Option Addr) (n : Nat) (xs : List Cause) : Prop where
  len : xs.length = n
  bound : n ≤ 9223372036854775807
  cell : 0 < n → ∃ b off, A = some ⟨b, off, none⟩ ∧ b < w.heap.size ∧ ∀ j, j < n → (nt xs j).lies w b (off + j * 2)
theorem CauseRaw.recs {w : World} {A : Option Addr} {n : Nat} {xs : List Cause} (h : CauseRaw w A n xs) (hn : n ≤ 1048576) : CauseS w A n xs := ⟨h.len, hn, h.cell⟩
theorem CauseRaw.below {w w' : World} {A : Option Addr} {n : Nat} {xs : List Cause} (h : CauseRaw w A n xs) (hb : Below w.heap.size w w') : CauseRaw w' A n xs :=
  ⟨h.len, h.bound, fun hn => by
    obtain ⟨b, off, e, hlt, hc⟩ := h.cell hn
    exact ⟨b, off, e, Nat.lt_of_lt_of_le hlt hb.size, fun j hj => (hc j hj).keep fun o => hb.cell (p := ⟨b, o, none⟩) hlt⟩⟩

theorem toCause_any (r : Cause) (w : World) :
    Calls Try.prog 29 #[.agg #[.int .i64 r.Kind, .int .i64 r.Number]] w fun e w' => e = .returned (.agg #[.int .i64 r.Kind, .int .i64 r.Number]) ∧ Below w.heap.size w w' := by
  go_enter Try.func29, Try.ntmps29
  go_wp2
  refine bodyPost_ret (v := .agg #[.int .i64 r.Kind, .int .i64 r.Number]) (by simp [results, Try.results29, go_sem]) rfl ⟨rfl, ?_⟩
  go_grown
theorem eqCause_any (r : Cause) (w : World) :
    Calls Try.prog 78 #[.agg #[.int .i64 r.Kind, .int .i64 r.Number], .agg #[.int .i64 r.Kind, .int .i64 r.Number]] w fun e w' => e = .returned (.bool true) ∧ Below w.heap.size w w' := by
  have hKind : (r.Kind != r.Kind) = false := by simp
  have hNumber : (r.Number != r.Number) = false := by simp
  go_enter Try.func78, Try.ntmps78
  go_wp2
  go_ret
  exact ⟨rfl, by go_grown⟩
theorem szCause_big (A : Option Addr) (n c : Nat) (left : Int) (w : World) (hn : n ≤ 9223372036854775807) (h0 : 0 ≤ left) (h1 : left ≤ 1048576) (h : left < n) :
    Calls Try.prog 35 #[.slice A n c, .int .i64 left] w fun e w' => e = .returned (.int .i64 (-1)) ∧ w = w' := by
  go_enter Try.func35, Try.ntmps35
  go_wp2
  go_ret
  exact ⟨rfl, rfl⟩
theorem szCause_ok (A : Option Addr) (n c : Nat) (left : Int) (w : World) (hn : n ≤ 9223372036854775807) (h0 : 0 ≤ left) (h1 : left ≤ 1048576) (h : ¬ left < n) :
    Calls Try.prog 35 #[.slice A n c, .int .i64 left] w fun e w' => e = .returned (.int .i64 (left - n)) ∧ w = w' := by
  go_enter Try.func35, Try.ntmps35
  go_wp2
  go_ret
  exact ⟨rfl, rfl⟩

def Cause.at (r : Cause) (i : Nat) : Value := if i = 0 then .int .i64 r.Kind else .int .i64 r.Number
/-- The cells of a row of records of which the first k are laid. -/
def Cause.cells (xs : List Cause) (k : Nat) (c : Nat) : Value := if c / 2 < k then (nt xs (c / 2)).at (c % 2) else (default : Cause).at (c % 2)
theorem info_Cause : (Try.prog.info? 38).map (fun i => (i.zero, i.size, i.bytes)) = some (some (.agg #[.int .i64 0, .int .i64 0]), 2, 16) := by kernel_rfl
theorem Cause.cells_step (xs : List Cause) (k c : Nat) : Cause.cells xs (k + 1) c = if c = k * 2 + 1 then (nt xs k).at 1 else if c = k * 2 + 0 then (nt xs k).at 0 else Cause.cells xs k c := by
  by_cases h1 : c = k * 2 + 1
  · subst h1
    have e1 : (k * 2 + 1) / 2 = k := by omega
    have e2 : (k * 2 + 1) % 2 = 1 := by omega
    simp only [Cause.cells, e1, e2, if_pos (Nat.lt_succ_self k)]; simp
  by_cases h0 : c = k * 2 + 0
  · subst h0
    have e1 : (k * 2 + 0) / 2 = k := by omega
    have e2 : (k * 2 + 0) % 2 = 0 := by omega
    simp only [Cause.cells, e1, e2, if_pos (Nat.lt_succ_self k)]; simp
  · simp only [h0, h1, if_false, Cause.cells]
    have e : c / 2 < k + 1 ↔ c / 2 < k := by omega
    simp only [e]
set_option maxHeartbeats 400000 in
theorem toCauseS_fz (A : Option Addr) (n c : Nat) (xs : List Cause) (w : World) (hA : CauseS w A n xs) :
    Calls Try.prog 36 #[.slice A n c] w fun e w' => ∃ b, e = .returned (.slice (some ⟨b, 0, none⟩) n n) ∧ w.heap.size ≤ b ∧ b < w'.heap.size ∧ (∀ o, w'.frozen? ⟨b, o, none⟩ = false) ∧ CauseS w' (some ⟨b, 0, none⟩) n xs ∧ Below w.heap.size w w' := by
  have hn := hA.bound
  have hmk := fun (W : World) => make_recs (P := Try.prog) 31 38 _ 2 16 Try.underlying31 info_Cause n (by omega) (by omega) W
  simp only [Value.cells] at hmk
  go_enter Try.func36, Try.ntmps36
  go_wp2
  clear hmk
  go_loopw [4] (fun i wr => ∃ k : Nat, k ≤ n ∧ i = .int .i64 k ∧ wr.rowIs w.heap.size 38 (n * 2) (Cause.cells xs k) ∧ Below w.heap.size w wr) (fun i _ => n - (intOf i).toNat)
  case atStart => exact ⟨0, Nat.zero_le _, rfl, rows_made w _ (n * 2) 38 _ (fun i hi => by
    have h : i % 2 < 2 := Nat.mod_lt _ (by omega)
    simp only [Cause.cells, Nat.not_lt_zero, if_false]
    show _ = some ((Cause.at default) (i % 2))
    generalize i % 2 = r at h
    match r, h with
    | 0, _ => rfl
    | 1, _ => rfl), (Below.refl _ _).alloc (Nat.le_refl _) _⟩
  case round =>
    obtain ⟨k, hk, rfl, hrow, hbel⟩ := hrel
    have HR := Lib.hid hrow; clear hrow
    by_cases hlt : k < n
    · obtain ⟨b, off, rfl, hb, hc⟩ := hA.cell (by omega)
      obtain ⟨hq0, hq1⟩ := (hc k hlt).keep (w' := wr) fun o => hbel.cell (p := ⟨b, o, none⟩) hb
      clear hc

      obtain ⟨u0, hu0⟩ : ∃ u, wr.cell? ⟨w.heap.size, k * 2, none⟩ = some u := ⟨_, HR.out.cell (by omega)⟩
      have hg0 := HR.out.frozen (k * 2)
      obtain ⟨u1, hu1⟩ : ∃ u, wr.cell? ⟨w.heap.size, k * 2 + 1, none⟩ = some u := ⟨_, HR.out.cell (by omega)⟩
      have hg1 := HR.out.frozen (k * 2 + 1)
      have hlr := HR.out.lt
      go_wp2_with fail
      refine (toCause_any (nt xs k) _).mono ?_; rintro e w1 ⟨rfl, hb1⟩
      obtain ⟨hc1, hf1⟩ := bcell hb1
      have HR1 := Lib.hid (row_below HR.out hb1)
      have hz1 := hb1.size
      go_wp2
      go_roundw
      case rel => exact ⟨k + 1, by omega, by go_num, ((HR1.out.set (k * 2) _).set (k * 2 + 1) _).congr fun j hj => by
        rw [Cause.cells_step xs k j]; simp [Cause.at], ((bel_tr hbel hb1).setCell (Nat.le_refl _) _).setCell (Nat.le_refl _) _⟩
      case measure => simp [intOf]; omega
    · go_wp2
      go_ret
      obtain rfl : k = n := by omega
      exact ⟨_, rfl, Nat.le_refl _, HR.out.lt, HR.out.frozen, ⟨hA.len, hA.bound, fun hn0 => ⟨_, _, rfl, HR.out.lt, fun j hj => by
        simp only [Nat.zero_add]
        refine ⟨?_, ?_⟩
        · rw [HR.out.cell (by omega)]; have e1 : (j * 2) / 2 = j := by omega
          have e2 : (j * 2) % 2 = 0 := by omega
          simp [Cause.cells, e1, e2, hj, Cause.at]
        · rw [HR.out.cell (by omega)]; have e1 : (j * 2 + 1) / 2 = j := by omega
          have e2 : (j * 2 + 1) % 2 = 1 := by omega
          simp [Cause.cells, e1, e2, hj, Cause.at]
        ⟩⟩, hbel⟩
theorem toCauseS_any (A : Option Addr) (n c : Nat) (xs : List Cause) (w : World) (hA : CauseS w A n xs) :
    Calls Try.prog 36 #[.slice A n c] w fun e w' => ∃ b, e = .returned (.slice (some ⟨b, 0, none⟩) n n) ∧ w.heap.size ≤ b ∧ CauseS w' (some ⟨b, 0, none⟩) n xs ∧ Below w.heap.size w w' :=
  (toCauseS_fz A n c xs w hA).mono fun e w' ⟨b, h1, h2, _, _, h5, h6⟩ => ⟨b, h1, h2, h5, h6⟩

theorem eqCauseS_any (A B : Option Addr) (n m c d : Nat) (xs : List Cause) (w : World) (hA : CauseS w A n xs) (hB : CauseS w B m xs) :
    Calls Try.prog 37 #[.slice A n c, .slice B m d] w fun e w' => e = .returned (.bool true) ∧ Below w.heap.size w w' := by
  have hn := hA.bound
  obtain rfl : n = m := by rw [← hA.len, hB.len]
  go_enter Try.func37, Try.ntmps37
  go_wp2
  go_loopw [5] (fun i wr => ∃ k : Nat, k ≤ n ∧ i = .int .i64 k ∧ Below w.heap.size w wr) (fun i _ => n - (intOf i).toNat)
  case atStart => exact ⟨0, Nat.zero_le _, rfl, Below.refl _ _⟩
  case round =>
    obtain ⟨k, hk, rfl, hbel⟩ := hrel
    by_cases hlt : k < n
    · obtain ⟨b, off, rfl, hb, hc⟩ := (hA.below hbel).cell (by omega)
      obtain ⟨b2, off2, rfl, hb2, hc2⟩ := (hB.below hbel).cell (by omega)
      obtain ⟨hq0, hq1⟩ := hc k hlt
      obtain ⟨hp0, hp1⟩ := hc2 k hlt
      clear hc hc2
      go_wp2_with fail
      go_region_held3 (fun w' => w'.cell? ⟨b, off + k * 2, none⟩ = some (.int .i64 (nt xs k).Kind) ∧ w'.cell? ⟨b, off + k * 2 + 1, none⟩ = some (.int .i64 (nt xs k).Number) ∧ w'.cell? ⟨b2, off2 + k * 2, none⟩ = some (.int .i64 (nt xs k).Kind) ∧ w'.cell? ⟨b2, off2 + k * 2 + 1, none⟩ = some (.int .i64 (nt xs k).Number) ∧ b < w'.heap.size ∧ b2 < w'.heap.size ∧ Below wr.heap.size wr w')
        ((try refine ⟨?_, ?_, ?_, ?_, ?_, ?_, ?_⟩) <;> (first | go_keep | (go_grown; done) | (go_split_ands; first | exact (hb1.cell (p := ⟨_, _, none⟩) (by assumption)).trans (by assumption) | exact Nat.lt_of_lt_of_le (by assumption) hb1.size | exact bel_tr (by assumption) hb1)))
        (first | (go_at_call 78; refine (eqCause_any _ _).mono ?_; rintro e w1 ⟨rfl, hb1⟩))
      all_goals
        go_wp2
        go_roundw
        case rel => exact ⟨k + 1, by omega, by go_num, bel_tr hbel (by go_split_ands; assumption)⟩
        case measure => simp [intOf]; omega
    · go_wp2
      go_ret
      exact ⟨rfl, hbel⟩
end Go.Proofs.Ytmapjepdcbpalaa
