/- The contracts of EmptyRack and FillRack, the reference's and the program's. -/
import Derived.Test.YtoghgbbepjpelaaDoorARack
import Derived.Test.YtoghgbbepjpelaaDoorV1
import Derived.Test.YtoghgbbepjpelaaDoorLs
import Derived.Test.YtoghgbbepjpelaaDoorCp
import Derived.Test.YtoghgbbepjpelaaDoorMRack
namespace Go.Proofs.YtoghgbbepjpelaaDoor
open Go.RowKit
set_option linter.unusedVariables false

theorem racksOk_len6 {xs : List Rack} (h : racksOk xs = true) : xs.length ≤ 20 := by
  simp only [racksOk, Bool.and_eq_true, decide_eq_true_eq] at h
  exact h.2
def rackC (xs : List Rack) (k : Int) : Int := if racksOk xs = true then (if inB k 0 ((xs.length : Int) - 1) = true then 0 else 2) else 1
theorem rackC_zero {xs : List Rack} {k : Int} (h : rackC xs k = 0) : racksOk xs = true ∧ inB k 0 ((xs.length : Int) - 1) = true := by
  rw [rackC] at h
  split at h
  · split at h
    · exact ⟨by assumption, by assumption⟩
    · omega
  · omega
theorem l15Rack_any (A : Option Addr) (n c : Nat) (xs : List Rack) (k : Int) (w : World) (hA : RackS w A n xs) :
    Calls Tryd.prog 48 #[.slice A n c, .int .i64 k] w fun e w' => e = .returned (.int .i64 (rackC xs k)) ∧ Below w.heap.size w w' := by
  have hn := hA.bound
  have HLE := Lib.hid hA.len
  rcases Bool.eq_false_or_eq_true (racksOk xs) with g | g
  · rcases Bool.eq_false_or_eq_true (inB k 0 ((n : Int) - 1)) with g1 | g1
    · have E := Lib.hid (show rackC xs k = 0 by rw [rackC, HLE.out, if_pos g, if_pos g1])
      have G := Lib.hid g; have G1 := Lib.hid g1; clear g g1
      go_enter Tryd.func48, Tryd.ntmps48
      go_wp2_with fail
      refine (asB (l15Ok_any _ _ _ xs _ hA) G.out).mono ?_; rintro e w1 ⟨rfl, hb1⟩
      go_wp2_with fail
      refine (asB (in_any _ _ _ _) G1.out).mono ?_; rintro e w' ⟨rfl, rfl⟩
      go_wp2_with fail
      go_ret
      exact ⟨ret_int E.out.symm, hb1⟩
    · have E := Lib.hid (show rackC xs k = 2 by rw [rackC, HLE.out, if_pos g, g1]; rfl)
      have G := Lib.hid g; have G1 := Lib.hid g1; clear g g1
      go_enter Tryd.func48, Tryd.ntmps48
      go_wp2_with fail
      refine (asB (l15Ok_any _ _ _ xs _ hA) G.out).mono ?_; rintro e w1 ⟨rfl, hb1⟩
      go_wp2_with fail
      refine (asB (in_any _ _ _ _) G1.out).mono ?_; rintro e w' ⟨rfl, rfl⟩
      go_wp2_with fail
      go_ret
      exact ⟨ret_int E.out.symm, hb1⟩
  · have E := Lib.hid (show rackC xs k = 1 by rw [rackC, g]; rfl)
    have G := Lib.hid g; clear g
    go_enter Tryd.func48, Tryd.ntmps48
    go_wp2_with fail
    refine (asB (l15Ok_any _ _ _ xs _ hA) G.out).mono ?_; rintro e w1 ⟨rfl, hb1⟩
    go_wp2_with fail
    go_ret
    exact ⟨ret_int E.out.symm, hb1⟩

theorem Rack.at_one (r : Rack) (i : Nat) : (r.at i).oneCell' = true := by unfold Rack.at; split <;> (try split) <;> (try split) <;> rfl
/-- A row of racks, of its cells. -/
theorem RackS.of_cells {w : World} {q n : Nat} {xs : List Rack} (hl : xs.length = n) (hn : n ≤ 1048576) (hq : q < w.heap.size) (h : CellsAt w q 0 (n * 4) (fun t => (nt xs (t / 4)).at (t % 4))) : RackS w (some ⟨q, 0, none⟩) n xs :=
  ⟨hl, hn, fun h0 => ⟨q, 0, rfl, hq, fun j hj => by
    have c : ∀ i, i < 4 → w.cell? ⟨q, 0 + j * 4 + i, none⟩ = some ((nt xs j).at i) := fun i hi => by
      have h1 : w.cell? ⟨q, 0 + (j * 4 + i), none⟩ = some ((nt xs ((j * 4 + i) / 4)).at ((j * 4 + i) % 4)) := h (j * 4 + i) (by omega)
      rw [show (j * 4 + i) / 4 = j by omega, show (j * 4 + i) % 4 = i by omega, ← Nat.add_assoc] at h1
      exact h1
    exact ⟨c 0 (by omega), c 1 (by omega), c 2 (by omega), c 3 (by omega)⟩⟩⟩

/-- A list of racks that a call has made, a number and a code. -/
def RackC (l : List Rack) (vs : Array Value) (w : World) (e : Ending) (w' : World) : Prop :=
  ∃ A n c, e = .returned (.tuple (#[.slice A n c] ++ vs)) ∧ RackS w' A n l ∧ Fz w' A ∧ Fresh w w' A ∧ Below w.heap.size w w'

set_option maxRecDepth 100000 in
theorem cloneRack_any (b off n c : Nat) (xs : List Rack) (w : World) (hA : RackS w (some ⟨b, off, none⟩) n xs) (h0 : 0 < n) :
    Calls Tryd.prog 47 #[.slice (some ⟨b, off, none⟩) n c] w
      fun e w' => ∃ q cap, e = .returned (.slice (some ⟨q, 0, none⟩) n cap) ∧ w.heap.size ≤ q ∧ q < w'.heap.size ∧ CellsAt w' q 0 (n * 4) (fun t => (nt xs (t / 4)).at (t % 4)) ∧ (∀ o, w'.frozen? ⟨q, o, none⟩ = false) ∧ Below w.heap.size w w' := by
  have hn := hA.bound
  obtain ⟨b', off', he, hb, hc⟩ := hA.cell h0
  simp only [Option.some.injEq, Addr.mk.injEq, and_true] at he
  obtain ⟨rfl, rfl⟩ := he
  have HC := Lib.hid (RackS.cellsAt hc); clear hc
  have HO := Lib.hid (World.ownsRow_made (base := w.heap.size) (e := 43) (size := 4) w #[] 0 (Nat.le_refl _) (by simp [maxLen]) (by simp))
  have HC2 := Lib.hid (show CellsAt (w.alloc (.cells #[] 43)) b off (n * 4) (fun t => (nt xs (t / 4)).at (t % 4)) from fun t ht => (((Below.refl w.heap.size w).alloc (Nat.le_refl _) _).cell (p := ⟨b, off + t, none⟩) hb).trans (HC.out t ht))
  have he : ∀ W : World, (binOp .eql 31 (.slice (some ⟨b, off, none⟩) n c) (.slice none 0 0)).run Tryd.prog W = .ok (.bool false) W := fun _ => rfl
  go_enter Tryd.func47, Tryd.ntmps47
  go_wp2_with (at_builtin; refine wpList_appAll _ rfl (.tmp 5) (.tmp 6) 31 rfl w.heap.size 43 _ 4 32 Tryd.underlying31 info_Rack1 rfl (by omega) _ HO.out rfl b off n c _ rfl HC2.out (fun t => Rack.at_one _ _) h0 hn (by omega) (by simp) (fun k hk => by simp [Value.ownBlock] at hk; omega) ?_; intro q cap w2 hq1 hq2 hq3 hq4 hq5 hq6)
  have h5 := hq5 (Nat.le_refl w.heap.size) (show Below w.heap.size w (w.alloc (.cells #[] 43)) from (Below.refl _ _).alloc (Nat.le_refl _) _)
  go_ret
  exact ⟨q, cap, rfl, hq1, hq2, hq3, hq4, h5⟩
/-- One rack of a row is stored anew. -/
theorem nt_set {xs : List Rack} {m j : Nat} {r : Rack} (hm : m < xs.length) : nt (xs.set m r) j = if j = m then r else nt xs j := by
  rw [nt, nt, List.getD_eq_getElem?_getD, List.getD_eq_getElem?_getD, List.getElem?_set]
  by_cases e : j = m
  · subst e; simp [hm]
  · have e' : ¬ m = j := fun h => e h.symm
    simp [e, e']
theorem rack_stored {w : World} {q n m : Nat} {xs : List Rack} (hl : xs.length = n) (hn : n ≤ 1048576) (hm : m < n) (hq : q < w.heap.size) (h : CellsAt w q 0 (n * 4) (fun t => (nt xs (t / 4)).at (t % 4))) (r : Rack) :
    RackS ((((w.setCell ⟨q, m * 4, none⟩ (.int .i64 r.Room)).setCell ⟨q, m * 4 + 1, none⟩ (.int .i64 r.Holds)).setCell ⟨q, m * 4 + 2, none⟩ (.int .i64 r.Since)).setCell ⟨q, m * 4 + 3, none⟩ (.int .i64 r.Needs)) (some ⟨q, 0, none⟩) n (xs.set m r) := by
  refine RackS.of_cells (by simpa using hl) hn (by simpa [World.setCell] using hq) fun t ht => ?_
  have h4 := (((h.set (s := m * 4) (by omega) (Nat.zero_add _).symm (.int .i64 r.Room)).set (s := m * 4 + 1) (by omega) (Nat.zero_add _).symm (.int .i64 r.Holds)).set (s := m * 4 + 2) (by omega) (Nat.zero_add _).symm (.int .i64 r.Since)).set (s := m * 4 + 3) (by omega) (Nat.zero_add _).symm (.int .i64 r.Needs)
  rw [h4 t ht]
  refine congrArg some ?_
  show (if t = m * 4 + 3 then Value.int .i64 r.Needs else if t = m * 4 + 2 then Value.int .i64 r.Since else if t = m * 4 + 1 then Value.int .i64 r.Holds else if t = m * 4 then Value.int .i64 r.Room else (nt xs (t / 4)).at (t % 4)) = (nt (xs.set m r) (t / 4)).at (t % 4)
  rw [nt_set (by omega)]
  have e : t = t / 4 * 4 + t % 4 := by omega
  have hr : t % 4 < 4 := Nat.mod_lt _ (by omega)
  by_cases hj : t / 4 = m
  · rw [if_pos hj]
    have c : t % 4 = 0 ∨ t % 4 = 1 ∨ t % 4 = 2 ∨ t % 4 = 3 := by omega
    rcases c with c | c | c | c
    · rw [if_neg (by omega), if_neg (by omega), if_neg (by omega), if_pos (by omega), c]; rfl
    · rw [if_neg (by omega), if_neg (by omega), if_pos (by omega), c]; rfl
    · rw [if_neg (by omega), if_pos (by omega), c]; rfl
    · rw [if_pos (by omega), c]; rfl
  · rw [if_neg hj, if_neg (by omega), if_neg (by omega), if_neg (by omega), if_neg (by omega)]
theorem stored_frozen {w : World} {q : Nat} (h : ∀ o, w.frozen? ⟨q, o, none⟩ = false) (a b c d : Nat) (x y z u : Value) :
    Fz ((((w.setCell ⟨q, a, none⟩ x).setCell ⟨q, b, none⟩ y).setCell ⟨q, c, none⟩ z).setCell ⟨q, d, none⟩ u) (some ⟨q, 0, none⟩) := Fz.mk_ fun o => by simp only [World.frozen?_setCell]; exact h o
theorem stored_below {W w : World} {q : Nat} (h : Below W.heap.size W w) (hq : W.heap.size ≤ q) (a b c d : Nat) (x y z u : Value) :
    Below W.heap.size W ((((w.setCell ⟨q, a, none⟩ x).setCell ⟨q, b, none⟩ y).setCell ⟨q, c, none⟩ z).setCell ⟨q, d, none⟩ u) := (((h.setCell hq _).setCell hq _).setCell hq _).setCell hq _
theorem RackC.made {l : List Rack} {vs : Array Value} {W w : World} {q n cap : Nat} (h : RackS w (some ⟨q, 0, none⟩) n l) (hf : Fz w (some ⟨q, 0, none⟩)) (h0 : W.heap.size ≤ q) (h1 : q < w.heap.size) (hb : Below W.heap.size W w) :
    RackC l vs W (.returned (.tuple (#[.slice (some ⟨q, 0, none⟩) n cap] ++ vs))) w :=
  ⟨_, _, _, rfl, h, hf, fun a e => by simp only [Option.some.injEq] at e; subst e; exact ⟨h0, h1⟩, hb⟩
theorem RackC.none_ {vs : Array Value} {W w : World} (hb : Below W.heap.size W w) : RackC [] vs W (.returned (.tuple (#[.slice none 0 0] ++ vs))) w :=
  ⟨none, 0, 0, rfl, RackS.nil _, Fz.none_ _, Fresh.none_ _ _, hb⟩

def emC (xs : List Rack) (k : Int) : Int := if rackC xs k = 0 then (if ((nt xs k.toNat).Holds == 0) = true then 6 else 0) else rackC xs k
def emL (xs : List Rack) (k : Int) : List Rack := if emC xs k = 0 then xs.set k.toNat ⟨(nt xs k.toNat).Room, 0, 0, 0⟩ else []
def emV (xs : List Rack) (k : Int) : Int := if emC xs k = 0 then (nt xs k.toNat).Holds else 0
theorem em_bad {xs : List Rack} {k c : Int} (h : emC xs k = c) (hc : c ≠ 0) : emL xs k = [] ∧ emV xs k = 0 ∧ emC xs k = c := by rw [emL, emV, h]; simp [hc]
theorem em_good {xs : List Rack} {m : Nat} (h : emC xs m = 0) : emL xs m = xs.set m ⟨(nt xs m).Room, 0, 0, 0⟩ ∧ emV xs m = (nt xs m).Holds ∧ emC xs m = 0 := by rw [emL, emV, h]; simp
set_option maxHeartbeats 2000000 in
theorem specEmptyRack_any (A : Option Addr) (n c : Nat) (xs : List Rack) (k : Int) (w : World) (hA : RackS w A n xs) :
    Calls Tryd.prog 17 #[.slice A n c, .int .i64 k] w (RackC (emL xs k) #[.int .i64 (emV xs k), .int .i64 (emC xs k)] w) := by
  have hn := hA.bound
  by_cases g : rackC xs k = 0
  · obtain ⟨ok, hk⟩ := rackC_zero g
    rw [hA.len] at hk
    have q := inB_true.1 hk
    obtain ⟨m, rfl⟩ := Int.eq_ofNat_of_zero_le (show 0 ≤ k by omega)
    have hmn : m < n := by omega
    have gb : (rackC xs m == 0) = true := by simpa using g
    have HG := Lib.hid g; clear g ok q gb hk
    rcases Bool.eq_false_or_eq_true ((nt xs m).Holds == 0) with g0 | g0
    · have E := Lib.hid (em_bad (xs := xs) (k := (m : Int)) (c := 6) (by rw [emC, if_pos HG.out]; exact if_pos g0) (by omega))
      have G0 := Lib.hid g0
      have L := Lib.hid hA.len
      have hA2 := hA
      obtain ⟨b, off, rfl, hb, hc⟩ := hA.cell (by omega)
      have HC := Lib.hid (RackS.cellsAt hc)
      have hl : (nt xs m).lies w b (off + m * 4) := hc m hmn
      have HLI := Lib.hid hl
      clear hc hl hA
      go_enter Tryd.func17, Tryd.ntmps17
      go_wp2_with fail
      refine (l15Rack_any _ _ _ xs _ _ hA2).mono ?_; rw [HG.out]; rintro e w1 ⟨rfl, hb1⟩
      have hz1 := hb1.size
      obtain ⟨h0, h1, h2, h3⟩ := HLI.out.keep (w' := w1) fun o => hb1.cell (p := ⟨b, o, none⟩) hb
      go_wp2_with fail
      go_ret3
      rw [E.out.1, E.out.2.1, E.out.2.2]
      exact RackC.none_ hb1
    · have G0 := Lib.hid g0
      have E := Lib.hid (em_good (xs := xs) (m := m) (by rw [emC, if_pos HG.out]; exact if_neg (by have h := G0.out; simp only [Int.toNat_natCast]; rw [h]; simp)))
      have L := Lib.hid hA.len
      have hA2 := hA
      obtain ⟨b, off, rfl, hb, hc⟩ := hA.cell (by omega)
      have HC := Lib.hid (RackS.cellsAt hc)
      have hl : (nt xs m).lies w b (off + m * 4) := hc m hmn
      have HLI := Lib.hid hl
      clear hc hl hA
      go_enter Tryd.func17, Tryd.ntmps17
      go_wp2_with fail
      refine (l15Rack_any _ _ _ xs _ _ hA2).mono ?_; rw [HG.out]; rintro e w1 ⟨rfl, hb1⟩
      have hz1 := hb1.size
      obtain ⟨h0, h1, h2, h3⟩ := HLI.out.keep (w' := w1) fun o => hb1.cell (p := ⟨b, o, none⟩) hb
      have HO := Lib.hid (World.ownsRow_made (base := w.heap.size) (e := 43) (size := 4) w1 #[] 0 hz1 (by simp [maxLen]) (by simp))
      have hb1' : Below w.heap.size w (w1.alloc (.cells #[] 43)) := bel_tr hb1 ((Below.refl _ _).alloc (Nat.le_refl _) _)
      have HC2 := Lib.hid (show CellsAt (w1.alloc (.cells #[] 43)) b off (n * 4) (fun t => (nt xs (t / 4)).at (t % 4)) from fun t ht => (hb1'.cell (p := ⟨b, off + t, none⟩) hb).trans (HC.out t ht))
      go_wp2_with (at_builtin; refine wpList_appAll _ rfl (.tmp 25) (.tmp 26) 31 rfl w.heap.size 43 _ 4 32 Tryd.underlying31 info_Rack1 rfl (by omega) _ HO.out rfl b off n c _ rfl HC2.out (fun t => Rack.at_one _ _) (by omega) hn (by omega) (by simp; omega) (fun k hk => by simp [Value.ownBlock] at hk; omega) ?_; intro qq cap w2 hq1 hq2 hq3 hq4 hq5 hq6; have hB2 := hq5 (Nat.le_refl _) hb1'; obtain ⟨p0, p1, p2, p3⟩ := HLI.out.keep (w' := w2) fun o => hB2.cell (p := ⟨b, o, none⟩) hb; have c0 := hq3 (m * 4) (by omega); have c1 := hq3 (m * 4 + 1) (by omega); have c2 := hq3 (m * 4 + 2) (by omega); have c3 := hq3 (m * 4 + 3) (by omega); simp only [Nat.zero_add] at c0 c1 c2 c3; have f0 := hq4 (m * 4); have f1 := hq4 (m * 4 + 1); have f2 := hq4 (m * 4 + 2); have f3 := hq4 (m * 4 + 3); have HQ3 := Lib.hid hq3; have HQ4 := Lib.hid hq4; clear hq3 hq4)
      go_quiet (fail)
      go_wp2
      go_ret3
      rw [E.out.1, E.out.2.1, E.out.2.2]
      exact RackC.made ((rack_stored L.out hn hmn hq2 HQ3.out ⟨(nt xs m).Room, 0, 0, 0⟩).drewN _) ((stored_frozen HQ4.out _ _ _ _ _ _ _ _).of_below (fun b off e => by simp only [Option.some.injEq, Addr.mk.injEq, and_true] at e; simp [World.setCell]; omega) (below_drewN (Below.refl _ _) _)) hq1 (by first | (simp [World.setCell]; done) | (simp [World.setCell]; omega)) (below_drewN (stored_below hB2 hq1 _ _ _ _ _ _ _ _) _)
  · have E := Lib.hid (em_bad (xs := xs) (k := k) (c := rackC xs k) (by rw [emC, if_neg g]) g)
    have g2 : (rackC xs k == 0) = false := by simpa using g
    have g3 : (rackC xs k != 0) = true := by simpa using g
    clear g
    go_enter Tryd.func17, Tryd.ntmps17
    go_wp2_with fail
    refine (l15Rack_any _ _ _ xs _ _ hA).mono ?_; rintro e w1 ⟨rfl, hb1⟩
    go_wp2_with fail
    go_ret3
    rw [E.out.1, E.out.2.1, E.out.2.2]
    exact RackC.none_ hb1

set_option maxHeartbeats 2000000 in
theorem implEmptyRack_any (A : Option Addr) (n c : Nat) (xs : List Rack) (k : Int) (w : World) (hA : RackS w A n xs) :
    Calls Tryd.prog 16 #[.slice A n c, .int .i64 k] w (RackC (emL xs k) #[.int .i64 (emV xs k), .int .i64 (emC xs k)] w) := by
  have hn := hA.bound
  have HLE := Lib.hid hA.len
  rcases Bool.eq_false_or_eq_true (racksOk xs) with g0 | g0
  · rcases Bool.eq_false_or_eq_true (inB k 0 ((n : Int) - 1)) with g1 | g1
    · have HG := Lib.hid (show rackC xs k = 0 by rw [rackC, HLE.out, if_pos g0, if_pos g1])
      have q := inB_true.1 g1
      obtain ⟨m, rfl⟩ := Int.eq_ofNat_of_zero_le (show 0 ≤ k by omega)
      have hmn : m < n := by omega
      have G0 := Lib.hid g0; have G1 := Lib.hid g1; clear g0 g1 q
      rcases Bool.eq_false_or_eq_true ((nt xs m).Holds == 0) with g2 | g2
      · have E := Lib.hid (em_bad (xs := xs) (k := (m : Int)) (c := 6) (by rw [emC, if_pos HG.out]; exact if_pos g2) (by omega))
        have L := Lib.hid hA.len
        have hA2 := hA
        obtain ⟨b, off, rfl, hb, hc⟩ := hA.cell (by omega)
        have HC := Lib.hid (RackS.cellsAt hc)
        have hl : (nt xs m).lies w b (off + m * 4) := hc m hmn
        have HLI := Lib.hid hl
        clear hc hl hA
        go_enter Tryd.func16, Tryd.ntmps16
        go_wp2_with fail
        refine (asB (implValidRacks_any _ _ _ xs _ hA2) G0.out).mono ?_; rintro e w1 ⟨rfl, hb1⟩
        have hz1 := hb1.size
        obtain ⟨h0, h1, h2, h3⟩ := HLI.out.keep (w' := w1) fun o => hb1.cell (p := ⟨b, o, none⟩) hb
        go_wp2_with fail
        refine (asB (within_any _ _ _ _) G1.out).mono ?_; rintro e w' ⟨rfl, rfl⟩
        go_wp2_with fail
        go_ret3
        rw [E.out.1, E.out.2.1, E.out.2.2]
        exact RackC.none_ hb1
      · have E := Lib.hid (em_good (xs := xs) (m := m) (by rw [emC, if_pos HG.out]; exact if_neg (by simp only [Int.toNat_natCast]; rw [g2]; simp)))
        have L := Lib.hid hA.len
        have hA2 := hA
        obtain ⟨b, off, rfl, hb, hc⟩ := hA.cell (by omega)
        have HC := Lib.hid (RackS.cellsAt hc)
        have hl : (nt xs m).lies w b (off + m * 4) := hc m hmn
        have HLI := Lib.hid hl
        clear hc hl hA
        go_enter Tryd.func16, Tryd.ntmps16
        go_wp2_with fail
        refine (asB (implValidRacks_any _ _ _ xs _ hA2) G0.out).mono ?_; rintro e w1 ⟨rfl, hb1⟩
        have hz1 := hb1.size
        obtain ⟨h0, h1, h2, h3⟩ := HLI.out.keep (w' := w1) fun o => hb1.cell (p := ⟨b, o, none⟩) hb
        go_wp2_with fail
        refine (asB (within_any _ _ _ _) G1.out).mono ?_; rintro e w' ⟨rfl, rfl⟩
        go_wp2_with fail
        refine (cloneRack_any _ _ _ _ xs _ (hA2.below hb1) (by omega)).mono ?_; rintro e w2 ⟨qq, cap, rfl, hq1', hq2, hq3, hq4, hb2⟩; have hB2 := bel_tr hb1 hb2; have hq1 : w.heap.size ≤ qq := Nat.le_trans hz1 hq1'; obtain ⟨p0, p1, p2, p3⟩ := HLI.out.keep (w' := w2) fun o => hB2.cell (p := ⟨b, o, none⟩) hb; have c0 := hq3 (m * 4) (by omega); have c1 := hq3 (m * 4 + 1) (by omega); have c2 := hq3 (m * 4 + 2) (by omega); have c3 := hq3 (m * 4 + 3) (by omega); simp only [Nat.zero_add] at c0 c1 c2 c3; have f0 := hq4 (m * 4); have f1 := hq4 (m * 4 + 1); have f2 := hq4 (m * 4 + 2); have f3 := hq4 (m * 4 + 3); have HQ3 := Lib.hid hq3; have HQ4 := Lib.hid hq4; clear hq3 hq4
        go_wp2_with fail
        go_quiet (fail)
        go_wp2
        go_ret3
        rw [E.out.1, E.out.2.1, E.out.2.2]
        exact RackC.made ((rack_stored L.out hn hmn hq2 HQ3.out ⟨(nt xs m).Room, 0, 0, 0⟩).drewN _) ((stored_frozen HQ4.out _ _ _ _ _ _ _ _).of_below (fun b off e => by simp only [Option.some.injEq, Addr.mk.injEq, and_true] at e; simp [World.setCell]; omega) (below_drewN (Below.refl _ _) _)) hq1 (by first | (simp [World.setCell]; done) | (simp [World.setCell]; omega)) (below_drewN (stored_below hB2 hq1 _ _ _ _ _ _ _ _) _)
    · have E := Lib.hid (em_bad (xs := xs) (k := k) (c := 2) (by rw [emC, show rackC xs k = 2 from (by rw [rackC, HLE.out, if_pos g0, g1]; rfl)]; rfl) (by omega))
      have G0 := Lib.hid g0; have G1 := Lib.hid g1; clear g0 g1
      go_enter Tryd.func16, Tryd.ntmps16
      go_wp2_with fail
      refine (asB (implValidRacks_any _ _ _ xs _ hA) G0.out).mono ?_; rintro e w1 ⟨rfl, hb1⟩
      go_wp2_with fail
      refine (asB (within_any _ _ _ _) G1.out).mono ?_; rintro e w' ⟨rfl, rfl⟩
      go_wp2_with fail
      go_ret3
      rw [E.out.1, E.out.2.1, E.out.2.2]
      exact RackC.none_ hb1
  · have E := Lib.hid (em_bad (xs := xs) (k := k) (c := 1) (by rw [emC, show rackC xs k = 1 from (by rw [rackC, g0]; rfl)]; rfl) (by omega))
    have G0 := Lib.hid g0; clear g0
    go_enter Tryd.func16, Tryd.ntmps16
    go_wp2_with fail
    refine (asB (implValidRacks_any _ _ _ xs _ hA) G0.out).mono ?_; rintro e w1 ⟨rfl, hb1⟩
    go_wp2_with fail
    go_ret3
    rw [E.out.1, E.out.2.1, E.out.2.2]
    exact RackC.none_ hb1

def fiB (bricks day needs : Int) : Bool := inB bricks 1 2000 && (inB day 0 60 && inB needs 0 1000)
def fiC (xs : List Rack) (k bricks day needs : Int) : Int :=
  if rackC xs k = 0 then (if fiB bricks day needs = true then (if decide (0 < (nt xs k.toNat).Holds) = true then 6 else (if decide ((nt xs k.toNat).Room < bricks) = true then 5 else 0)) else 2) else rackC xs k
def fiL (xs : List Rack) (k bricks day needs : Int) : List Rack := if fiC xs k bricks day needs = 0 then xs.set k.toNat ⟨(nt xs k.toNat).Room, bricks, day, needs⟩ else []
theorem fi_bad {xs : List Rack} {k bricks day needs c : Int} (h : fiC xs k bricks day needs = c) (hc : c ≠ 0) : fiL xs k bricks day needs = [] ∧ fiC xs k bricks day needs = c := by rw [fiL, h]; simp [hc]
theorem fi_good {xs : List Rack} {m : Nat} {bricks day needs : Int} (h : fiC xs m bricks day needs = 0) : fiL xs m bricks day needs = xs.set m ⟨(nt xs m).Room, bricks, day, needs⟩ ∧ fiC xs m bricks day needs = 0 := by rw [fiL, h]; simp
set_option maxHeartbeats 2000000 in
theorem specFillRack_any (A : Option Addr) (n c : Nat) (xs : List Rack) (k : Int) (bricks day needs : Int) (w : World) (hA : RackS w A n xs) :
    Calls Tryd.prog 14 #[.slice A n c, .int .i64 k, .int .i64 bricks, .int .i64 day, .int .i64 needs] w (RackC (fiL xs k bricks day needs) #[.int .i64 (fiC xs k bricks day needs)] w) := by
  have hn := hA.bound
  by_cases g : rackC xs k = 0
  · obtain ⟨ok, hk⟩ := rackC_zero g
    rw [hA.len] at hk
    have q := inB_true.1 hk
    obtain ⟨m, rfl⟩ := Int.eq_ofNat_of_zero_le (show 0 ≤ k by omega)
    have hmn : m < n := by omega
    have gb : (rackC xs m == 0) = true := by simpa using g
    have HG := Lib.hid g; clear g ok q gb hk
    rcases Bool.eq_false_or_eq_true (inB bricks 1 2000) with g0 | g0
    · have G0 := Lib.hid g0; clear g0
      rcases Bool.eq_false_or_eq_true (inB day 0 60) with g1 | g1
      · have G1 := Lib.hid g1; clear g1
        rcases Bool.eq_false_or_eq_true (inB needs 0 1000) with g2 | g2
        · have G2 := Lib.hid g2; clear g2
          rcases Bool.eq_false_or_eq_true (decide (0 < (nt xs m).Holds)) with g3 | g3
          · have FB := Lib.hid (show fiB bricks day needs = true by rw [fiB, G0.out, G1.out, G2.out]; rfl)
            have E := Lib.hid (fi_bad (xs := xs) (k := (m : Int)) (bricks := bricks) (day := day) (needs := needs) (c := 6) (by rw [fiC, if_pos HG.out, if_pos FB.out]; exact if_pos g3) (by omega))
            have G3 := Lib.hid g3
            have L := Lib.hid hA.len
            have hA2 := hA
            obtain ⟨b, off, rfl, hb, hc⟩ := hA.cell (by omega)
            have HC := Lib.hid (RackS.cellsAt hc)
            have hl : (nt xs m).lies w b (off + m * 4) := hc m hmn
            have HLI := Lib.hid hl
            clear hc hl hA
            go_enter Tryd.func14, Tryd.ntmps14
            go_wp2_with fail
            refine (l15Rack_any _ _ _ xs _ _ hA2).mono ?_; rw [HG.out]; rintro e w1 ⟨rfl, hb1⟩
            have hz1 := hb1.size
            obtain ⟨h0, h1, h2, h3⟩ := HLI.out.keep (w' := w1) fun o => hb1.cell (p := ⟨b, o, none⟩) hb
            go_wp2_with fail
            refine (asB (in_any _ _ _ _) G0.out).mono ?_; rintro e w' ⟨rfl, rfl⟩
            go_wp2_with fail
            refine (asB (in_any _ _ _ _) G1.out).mono ?_; rintro e w' ⟨rfl, rfl⟩
            go_wp2_with fail
            refine (asB (in_any _ _ _ _) G2.out).mono ?_; rintro e w' ⟨rfl, rfl⟩
            go_wp2_with fail
            go_ret2
            rw [E.out.1, E.out.2]
            exact RackC.none_ hb1
          · have G3 := Lib.hid g3
            rcases Bool.eq_false_or_eq_true (decide ((nt xs m).Room < bricks)) with g4 | g4
            · have FB := Lib.hid (show fiB bricks day needs = true by rw [fiB, G0.out, G1.out, G2.out]; rfl)
              have E := Lib.hid (fi_bad (xs := xs) (k := (m : Int)) (bricks := bricks) (day := day) (needs := needs) (c := 5) (by rw [fiC, if_pos HG.out, if_pos FB.out]; exact (if_neg (by have h := G3.out; simp only [Int.toNat_natCast]; rw [h]; simp)).trans (if_pos g4)) (by omega))
              have G4 := Lib.hid g4
              have L := Lib.hid hA.len
              have hA2 := hA
              obtain ⟨b, off, rfl, hb, hc⟩ := hA.cell (by omega)
              have HC := Lib.hid (RackS.cellsAt hc)
              have hl : (nt xs m).lies w b (off + m * 4) := hc m hmn
              have HLI := Lib.hid hl
              clear hc hl hA
              go_enter Tryd.func14, Tryd.ntmps14
              go_wp2_with fail
              refine (l15Rack_any _ _ _ xs _ _ hA2).mono ?_; rw [HG.out]; rintro e w1 ⟨rfl, hb1⟩
              have hz1 := hb1.size
              obtain ⟨h0, h1, h2, h3⟩ := HLI.out.keep (w' := w1) fun o => hb1.cell (p := ⟨b, o, none⟩) hb
              go_wp2_with fail
              refine (asB (in_any _ _ _ _) G0.out).mono ?_; rintro e w' ⟨rfl, rfl⟩
              go_wp2_with fail
              refine (asB (in_any _ _ _ _) G1.out).mono ?_; rintro e w' ⟨rfl, rfl⟩
              go_wp2_with fail
              refine (asB (in_any _ _ _ _) G2.out).mono ?_; rintro e w' ⟨rfl, rfl⟩
              go_wp2_with fail
              go_ret2
              rw [E.out.1, E.out.2]
              exact RackC.none_ hb1
            · have G4 := Lib.hid g4
              have FB := Lib.hid (show fiB bricks day needs = true by rw [fiB, G0.out, G1.out, G2.out]; rfl)
              have E := Lib.hid (fi_good (xs := xs) (m := m) (bricks := bricks) (day := day) (needs := needs) (by rw [fiC, if_pos HG.out, if_pos FB.out]; exact (if_neg (by have h := G3.out; simp only [Int.toNat_natCast]; rw [h]; simp)).trans (if_neg (by have h := G4.out; simp only [Int.toNat_natCast]; rw [h]; simp))))
              have L := Lib.hid hA.len
              have hA2 := hA
              obtain ⟨b, off, rfl, hb, hc⟩ := hA.cell (by omega)
              have HC := Lib.hid (RackS.cellsAt hc)
              have hl : (nt xs m).lies w b (off + m * 4) := hc m hmn
              have HLI := Lib.hid hl
              clear hc hl hA
              go_enter Tryd.func14, Tryd.ntmps14
              go_wp2_with fail
              refine (l15Rack_any _ _ _ xs _ _ hA2).mono ?_; rw [HG.out]; rintro e w1 ⟨rfl, hb1⟩
              have hz1 := hb1.size
              obtain ⟨h0, h1, h2, h3⟩ := HLI.out.keep (w' := w1) fun o => hb1.cell (p := ⟨b, o, none⟩) hb
              go_wp2_with fail
              refine (asB (in_any _ _ _ _) G0.out).mono ?_; rintro e w' ⟨rfl, rfl⟩
              go_wp2_with fail
              refine (asB (in_any _ _ _ _) G1.out).mono ?_; rintro e w' ⟨rfl, rfl⟩
              go_wp2_with fail
              refine (asB (in_any _ _ _ _) G2.out).mono ?_; rintro e w' ⟨rfl, rfl⟩
              have HO := Lib.hid (World.ownsRow_made (base := w.heap.size) (e := 43) (size := 4) w1 #[] 0 hz1 (by simp [maxLen]) (by simp))
              have hb1' : Below w.heap.size w (w1.alloc (.cells #[] 43)) := bel_tr hb1 ((Below.refl _ _).alloc (Nat.le_refl _) _)
              have HC2 := Lib.hid (show CellsAt (w1.alloc (.cells #[] 43)) b off (n * 4) (fun t => (nt xs (t / 4)).at (t % 4)) from fun t ht => (hb1'.cell (p := ⟨b, off + t, none⟩) hb).trans (HC.out t ht))
              go_wp2_with (at_builtin; refine wpList_appAll _ rfl (.tmp 58) (.tmp 59) 31 rfl w.heap.size 43 _ 4 32 Tryd.underlying31 info_Rack1 rfl (by omega) _ HO.out rfl b off n c _ rfl HC2.out (fun t => Rack.at_one _ _) (by omega) hn (by omega) (by simp; omega) (fun k hk => by simp [Value.ownBlock] at hk; omega) ?_; intro qq cap w2 hq1 hq2 hq3 hq4 hq5 hq6; have hB2 := hq5 (Nat.le_refl _) hb1'; obtain ⟨p0, p1, p2, p3⟩ := HLI.out.keep (w' := w2) fun o => hB2.cell (p := ⟨b, o, none⟩) hb; have c0 := hq3 (m * 4) (by omega); have c1 := hq3 (m * 4 + 1) (by omega); have c2 := hq3 (m * 4 + 2) (by omega); have c3 := hq3 (m * 4 + 3) (by omega); simp only [Nat.zero_add] at c0 c1 c2 c3; have f0 := hq4 (m * 4); have f1 := hq4 (m * 4 + 1); have f2 := hq4 (m * 4 + 2); have f3 := hq4 (m * 4 + 3); have HQ3 := Lib.hid hq3; have HQ4 := Lib.hid hq4; clear hq3 hq4)
              go_ret2
              rw [E.out.1, E.out.2]
              exact RackC.made (rack_stored L.out hn hmn hq2 HQ3.out ⟨(nt xs m).Room, bricks, day, needs⟩) (stored_frozen HQ4.out _ _ _ _ _ _ _ _) hq1 (by first | (simp [World.setCell]; done) | (simp [World.setCell]; omega)) (stored_below hB2 hq1 _ _ _ _ _ _ _ _)
        · have E := Lib.hid (fi_bad (xs := xs) (k := (m : Int)) (bricks := bricks) (day := day) (needs := needs) (c := 2) (by rw [fiC, if_pos HG.out, fiB, g2]; simp) (by omega))
          have G2 := Lib.hid g2; clear g2
          have L := Lib.hid hA.len
          have hA2 := hA
          obtain ⟨b, off, rfl, hb, hc⟩ := hA.cell (by omega)
          have HC := Lib.hid (RackS.cellsAt hc)
          have hl : (nt xs m).lies w b (off + m * 4) := hc m hmn
          have HLI := Lib.hid hl
          clear hc hl hA
          go_enter Tryd.func14, Tryd.ntmps14
          go_wp2_with fail
          refine (l15Rack_any _ _ _ xs _ _ hA2).mono ?_; rw [HG.out]; rintro e w1 ⟨rfl, hb1⟩
          have hz1 := hb1.size
          obtain ⟨h0, h1, h2, h3⟩ := HLI.out.keep (w' := w1) fun o => hb1.cell (p := ⟨b, o, none⟩) hb
          go_wp2_with fail
          refine (asB (in_any _ _ _ _) G0.out).mono ?_; rintro e w' ⟨rfl, rfl⟩
          go_wp2_with fail
          refine (asB (in_any _ _ _ _) G1.out).mono ?_; rintro e w' ⟨rfl, rfl⟩
          go_wp2_with fail
          refine (asB (in_any _ _ _ _) G2.out).mono ?_; rintro e w' ⟨rfl, rfl⟩
          go_wp2_with fail
          go_ret2
          rw [E.out.1, E.out.2]
          exact RackC.none_ hb1
      · have E := Lib.hid (fi_bad (xs := xs) (k := (m : Int)) (bricks := bricks) (day := day) (needs := needs) (c := 2) (by rw [fiC, if_pos HG.out, fiB, g1]; simp) (by omega))
        have G1 := Lib.hid g1; clear g1
        have L := Lib.hid hA.len
        have hA2 := hA
        obtain ⟨b, off, rfl, hb, hc⟩ := hA.cell (by omega)
        have HC := Lib.hid (RackS.cellsAt hc)
        have hl : (nt xs m).lies w b (off + m * 4) := hc m hmn
        have HLI := Lib.hid hl
        clear hc hl hA
        go_enter Tryd.func14, Tryd.ntmps14
        go_wp2_with fail
        refine (l15Rack_any _ _ _ xs _ _ hA2).mono ?_; rw [HG.out]; rintro e w1 ⟨rfl, hb1⟩
        have hz1 := hb1.size
        obtain ⟨h0, h1, h2, h3⟩ := HLI.out.keep (w' := w1) fun o => hb1.cell (p := ⟨b, o, none⟩) hb
        go_wp2_with fail
        refine (asB (in_any _ _ _ _) G0.out).mono ?_; rintro e w' ⟨rfl, rfl⟩
        go_wp2_with fail
        refine (asB (in_any _ _ _ _) G1.out).mono ?_; rintro e w' ⟨rfl, rfl⟩
        go_wp2_with fail
        go_ret2
        rw [E.out.1, E.out.2]
        exact RackC.none_ hb1
    · have E := Lib.hid (fi_bad (xs := xs) (k := (m : Int)) (bricks := bricks) (day := day) (needs := needs) (c := 2) (by rw [fiC, if_pos HG.out, fiB, g0]; simp) (by omega))
      have G0 := Lib.hid g0; clear g0
      have L := Lib.hid hA.len
      have hA2 := hA
      obtain ⟨b, off, rfl, hb, hc⟩ := hA.cell (by omega)
      have HC := Lib.hid (RackS.cellsAt hc)
      have hl : (nt xs m).lies w b (off + m * 4) := hc m hmn
      have HLI := Lib.hid hl
      clear hc hl hA
      go_enter Tryd.func14, Tryd.ntmps14
      go_wp2_with fail
      refine (l15Rack_any _ _ _ xs _ _ hA2).mono ?_; rw [HG.out]; rintro e w1 ⟨rfl, hb1⟩
      have hz1 := hb1.size
      obtain ⟨h0, h1, h2, h3⟩ := HLI.out.keep (w' := w1) fun o => hb1.cell (p := ⟨b, o, none⟩) hb
      go_wp2_with fail
      refine (asB (in_any _ _ _ _) G0.out).mono ?_; rintro e w' ⟨rfl, rfl⟩
      go_wp2_with fail
      go_ret2
      rw [E.out.1, E.out.2]
      exact RackC.none_ hb1
  · have E := Lib.hid (fi_bad (xs := xs) (k := k) (bricks := bricks) (day := day) (needs := needs) (c := rackC xs k) (by rw [fiC, if_neg g]) g)
    have g2 : (rackC xs k == 0) = false := by simpa using g
    have g3 : (rackC xs k != 0) = true := by simpa using g
    clear g
    go_enter Tryd.func14, Tryd.ntmps14
    go_wp2_with fail
    refine (l15Rack_any _ _ _ xs _ _ hA).mono ?_; rintro e w1 ⟨rfl, hb1⟩
    go_wp2_with fail
    go_ret2
    rw [E.out.1, E.out.2]
    exact RackC.none_ hb1

set_option maxHeartbeats 2000000 in
theorem implFillRack_any (A : Option Addr) (n c : Nat) (xs : List Rack) (k : Int) (bricks day needs : Int) (w : World) (hA : RackS w A n xs) :
    Calls Tryd.prog 13 #[.slice A n c, .int .i64 k, .int .i64 bricks, .int .i64 day, .int .i64 needs] w (RackC (fiL xs k bricks day needs) #[.int .i64 (fiC xs k bricks day needs)] w) := by
  have hn := hA.bound
  have HLE := Lib.hid hA.len
  rcases Bool.eq_false_or_eq_true (racksOk xs) with v0 | v0
  · rcases Bool.eq_false_or_eq_true (inB k 0 ((n : Int) - 1)) with v1 | v1
    · have HG := Lib.hid (show rackC xs k = 0 by rw [rackC, HLE.out, if_pos v0, if_pos v1])
      have q := inB_true.1 v1
      obtain ⟨m, rfl⟩ := Int.eq_ofNat_of_zero_le (show 0 ≤ k by omega)
      have hmn : m < n := by omega
      have V0 := Lib.hid v0; have V1 := Lib.hid v1; clear v0 v1 q
      rcases Bool.eq_false_or_eq_true (inB bricks 1 2000) with g0 | g0
      · have G0 := Lib.hid g0; clear g0
        rcases Bool.eq_false_or_eq_true (inB day 0 60) with g1 | g1
        · have G1 := Lib.hid g1; clear g1
          rcases Bool.eq_false_or_eq_true (inB needs 0 1000) with g2 | g2
          · have G2 := Lib.hid g2; clear g2
            rcases Bool.eq_false_or_eq_true (decide (0 < (nt xs m).Holds)) with g3 | g3
            · have FB := Lib.hid (show fiB bricks day needs = true by rw [fiB, G0.out, G1.out, G2.out]; rfl)
              have E := Lib.hid (fi_bad (xs := xs) (k := (m : Int)) (bricks := bricks) (day := day) (needs := needs) (c := 6) (by rw [fiC, if_pos HG.out, if_pos FB.out]; exact if_pos g3) (by omega))
              have G3 := Lib.hid g3
              have L := Lib.hid hA.len
              have hA2 := hA
              obtain ⟨b, off, rfl, hb, hc⟩ := hA.cell (by omega)
              have HC := Lib.hid (RackS.cellsAt hc)
              have hl : (nt xs m).lies w b (off + m * 4) := hc m hmn
              have HLI := Lib.hid hl
              clear hc hl hA
              go_enter Tryd.func13, Tryd.ntmps13
              go_wp2_with fail
              refine (asB (implValidRacks_any _ _ _ xs _ hA2) V0.out).mono ?_; rintro e w1 ⟨rfl, hb1⟩
              have hz1 := hb1.size
              obtain ⟨h0, h1, h2, h3⟩ := HLI.out.keep (w' := w1) fun o => hb1.cell (p := ⟨b, o, none⟩) hb
              go_wp2_with fail
              refine (asB (within_any _ _ _ _) V1.out).mono ?_; rintro e w' ⟨rfl, rfl⟩
              go_wp2_with fail
              refine (asB (within_any _ _ _ _) G0.out).mono ?_; rintro e w' ⟨rfl, rfl⟩
              go_wp2_with fail
              refine (asB (within_any _ _ _ _) G1.out).mono ?_; rintro e w' ⟨rfl, rfl⟩
              go_wp2_with fail
              refine (asB (within_any _ _ _ _) G2.out).mono ?_; rintro e w' ⟨rfl, rfl⟩
              go_wp2_with fail
              go_ret2
              rw [E.out.1, E.out.2]
              exact RackC.none_ hb1
            · have G3 := Lib.hid g3
              rcases Bool.eq_false_or_eq_true (decide ((nt xs m).Room < bricks)) with g4 | g4
              · have FB := Lib.hid (show fiB bricks day needs = true by rw [fiB, G0.out, G1.out, G2.out]; rfl)
                have E := Lib.hid (fi_bad (xs := xs) (k := (m : Int)) (bricks := bricks) (day := day) (needs := needs) (c := 5) (by rw [fiC, if_pos HG.out, if_pos FB.out]; exact (if_neg (by have h := G3.out; simp only [Int.toNat_natCast]; rw [h]; simp)).trans (if_pos g4)) (by omega))
                have G4 := Lib.hid g4
                have L := Lib.hid hA.len
                have hA2 := hA
                obtain ⟨b, off, rfl, hb, hc⟩ := hA.cell (by omega)
                have HC := Lib.hid (RackS.cellsAt hc)
                have hl : (nt xs m).lies w b (off + m * 4) := hc m hmn
                have HLI := Lib.hid hl
                clear hc hl hA
                go_enter Tryd.func13, Tryd.ntmps13
                go_wp2_with fail
                refine (asB (implValidRacks_any _ _ _ xs _ hA2) V0.out).mono ?_; rintro e w1 ⟨rfl, hb1⟩
                have hz1 := hb1.size
                obtain ⟨h0, h1, h2, h3⟩ := HLI.out.keep (w' := w1) fun o => hb1.cell (p := ⟨b, o, none⟩) hb
                go_wp2_with fail
                refine (asB (within_any _ _ _ _) V1.out).mono ?_; rintro e w' ⟨rfl, rfl⟩
                go_wp2_with fail
                refine (asB (within_any _ _ _ _) G0.out).mono ?_; rintro e w' ⟨rfl, rfl⟩
                go_wp2_with fail
                refine (asB (within_any _ _ _ _) G1.out).mono ?_; rintro e w' ⟨rfl, rfl⟩
                go_wp2_with fail
                refine (asB (within_any _ _ _ _) G2.out).mono ?_; rintro e w' ⟨rfl, rfl⟩
                go_wp2_with fail
                go_ret2
                rw [E.out.1, E.out.2]
                exact RackC.none_ hb1
              · have G4 := Lib.hid g4
                have FB := Lib.hid (show fiB bricks day needs = true by rw [fiB, G0.out, G1.out, G2.out]; rfl)
                have E := Lib.hid (fi_good (xs := xs) (m := m) (bricks := bricks) (day := day) (needs := needs) (by rw [fiC, if_pos HG.out, if_pos FB.out]; exact (if_neg (by have h := G3.out; simp only [Int.toNat_natCast]; rw [h]; simp)).trans (if_neg (by have h := G4.out; simp only [Int.toNat_natCast]; rw [h]; simp))))
                have L := Lib.hid hA.len
                have hA2 := hA
                obtain ⟨b, off, rfl, hb, hc⟩ := hA.cell (by omega)
                have HC := Lib.hid (RackS.cellsAt hc)
                have hl : (nt xs m).lies w b (off + m * 4) := hc m hmn
                have HLI := Lib.hid hl
                clear hc hl hA
                go_enter Tryd.func13, Tryd.ntmps13
                go_wp2_with fail
                refine (asB (implValidRacks_any _ _ _ xs _ hA2) V0.out).mono ?_; rintro e w1 ⟨rfl, hb1⟩
                have hz1 := hb1.size
                obtain ⟨h0, h1, h2, h3⟩ := HLI.out.keep (w' := w1) fun o => hb1.cell (p := ⟨b, o, none⟩) hb
                go_wp2_with fail
                refine (asB (within_any _ _ _ _) V1.out).mono ?_; rintro e w' ⟨rfl, rfl⟩
                go_wp2_with fail
                refine (asB (within_any _ _ _ _) G0.out).mono ?_; rintro e w' ⟨rfl, rfl⟩
                go_wp2_with fail
                refine (asB (within_any _ _ _ _) G1.out).mono ?_; rintro e w' ⟨rfl, rfl⟩
                go_wp2_with fail
                refine (asB (within_any _ _ _ _) G2.out).mono ?_; rintro e w' ⟨rfl, rfl⟩
                go_wp2_with fail
                refine (cloneRack_any _ _ _ _ xs _ (hA2.below hb1) (by omega)).mono ?_; rintro e w2 ⟨qq, cap, rfl, hq1', hq2, hq3, hq4, hb2⟩; have hB2 := bel_tr hb1 hb2; have hq1 : w.heap.size ≤ qq := Nat.le_trans hz1 hq1'; obtain ⟨p0, p1, p2, p3⟩ := HLI.out.keep (w' := w2) fun o => hB2.cell (p := ⟨b, o, none⟩) hb; have c0 := hq3 (m * 4) (by omega); have c1 := hq3 (m * 4 + 1) (by omega); have c2 := hq3 (m * 4 + 2) (by omega); have c3 := hq3 (m * 4 + 3) (by omega); simp only [Nat.zero_add] at c0 c1 c2 c3; have f0 := hq4 (m * 4); have f1 := hq4 (m * 4 + 1); have f2 := hq4 (m * 4 + 2); have f3 := hq4 (m * 4 + 3); have HQ3 := Lib.hid hq3; have HQ4 := Lib.hid hq4; clear hq3 hq4
                go_wp2_with fail
                go_ret2
                rw [E.out.1, E.out.2]
                exact RackC.made (rack_stored L.out hn hmn hq2 HQ3.out ⟨(nt xs m).Room, bricks, day, needs⟩) (stored_frozen HQ4.out _ _ _ _ _ _ _ _) hq1 (by first | (simp [World.setCell]; done) | (simp [World.setCell]; omega)) (stored_below hB2 hq1 _ _ _ _ _ _ _ _)
          · have E := Lib.hid (fi_bad (xs := xs) (k := (m : Int)) (bricks := bricks) (day := day) (needs := needs) (c := 2) (by rw [fiC, if_pos HG.out, fiB, g2]; simp) (by omega))
            have G2 := Lib.hid g2; clear g2
            have L := Lib.hid hA.len
            have hA2 := hA
            obtain ⟨b, off, rfl, hb, hc⟩ := hA.cell (by omega)
            have HC := Lib.hid (RackS.cellsAt hc)
            have hl : (nt xs m).lies w b (off + m * 4) := hc m hmn
            have HLI := Lib.hid hl
            clear hc hl hA
            go_enter Tryd.func13, Tryd.ntmps13
            go_wp2_with fail
            refine (asB (implValidRacks_any _ _ _ xs _ hA2) V0.out).mono ?_; rintro e w1 ⟨rfl, hb1⟩
            have hz1 := hb1.size
            obtain ⟨h0, h1, h2, h3⟩ := HLI.out.keep (w' := w1) fun o => hb1.cell (p := ⟨b, o, none⟩) hb
            go_wp2_with fail
            refine (asB (within_any _ _ _ _) V1.out).mono ?_; rintro e w' ⟨rfl, rfl⟩
            go_wp2_with fail
            refine (asB (within_any _ _ _ _) G0.out).mono ?_; rintro e w' ⟨rfl, rfl⟩
            go_wp2_with fail
            refine (asB (within_any _ _ _ _) G1.out).mono ?_; rintro e w' ⟨rfl, rfl⟩
            go_wp2_with fail
            refine (asB (within_any _ _ _ _) G2.out).mono ?_; rintro e w' ⟨rfl, rfl⟩
            go_wp2_with fail
            go_ret2
            rw [E.out.1, E.out.2]
            exact RackC.none_ hb1
        · have E := Lib.hid (fi_bad (xs := xs) (k := (m : Int)) (bricks := bricks) (day := day) (needs := needs) (c := 2) (by rw [fiC, if_pos HG.out, fiB, g1]; simp) (by omega))
          have G1 := Lib.hid g1; clear g1
          have L := Lib.hid hA.len
          have hA2 := hA
          obtain ⟨b, off, rfl, hb, hc⟩ := hA.cell (by omega)
          have HC := Lib.hid (RackS.cellsAt hc)
          have hl : (nt xs m).lies w b (off + m * 4) := hc m hmn
          have HLI := Lib.hid hl
          clear hc hl hA
          go_enter Tryd.func13, Tryd.ntmps13
          go_wp2_with fail
          refine (asB (implValidRacks_any _ _ _ xs _ hA2) V0.out).mono ?_; rintro e w1 ⟨rfl, hb1⟩
          have hz1 := hb1.size
          obtain ⟨h0, h1, h2, h3⟩ := HLI.out.keep (w' := w1) fun o => hb1.cell (p := ⟨b, o, none⟩) hb
          go_wp2_with fail
          refine (asB (within_any _ _ _ _) V1.out).mono ?_; rintro e w' ⟨rfl, rfl⟩
          go_wp2_with fail
          refine (asB (within_any _ _ _ _) G0.out).mono ?_; rintro e w' ⟨rfl, rfl⟩
          go_wp2_with fail
          refine (asB (within_any _ _ _ _) G1.out).mono ?_; rintro e w' ⟨rfl, rfl⟩
          go_wp2_with fail
          go_ret2
          rw [E.out.1, E.out.2]
          exact RackC.none_ hb1
      · have E := Lib.hid (fi_bad (xs := xs) (k := (m : Int)) (bricks := bricks) (day := day) (needs := needs) (c := 2) (by rw [fiC, if_pos HG.out, fiB, g0]; simp) (by omega))
        have G0 := Lib.hid g0; clear g0
        have L := Lib.hid hA.len
        have hA2 := hA
        obtain ⟨b, off, rfl, hb, hc⟩ := hA.cell (by omega)
        have HC := Lib.hid (RackS.cellsAt hc)
        have hl : (nt xs m).lies w b (off + m * 4) := hc m hmn
        have HLI := Lib.hid hl
        clear hc hl hA
        go_enter Tryd.func13, Tryd.ntmps13
        go_wp2_with fail
        refine (asB (implValidRacks_any _ _ _ xs _ hA2) V0.out).mono ?_; rintro e w1 ⟨rfl, hb1⟩
        have hz1 := hb1.size
        obtain ⟨h0, h1, h2, h3⟩ := HLI.out.keep (w' := w1) fun o => hb1.cell (p := ⟨b, o, none⟩) hb
        go_wp2_with fail
        refine (asB (within_any _ _ _ _) V1.out).mono ?_; rintro e w' ⟨rfl, rfl⟩
        go_wp2_with fail
        refine (asB (within_any _ _ _ _) G0.out).mono ?_; rintro e w' ⟨rfl, rfl⟩
        go_wp2_with fail
        go_ret2
        rw [E.out.1, E.out.2]
        exact RackC.none_ hb1
    · have E := Lib.hid (fi_bad (xs := xs) (k := k) (bricks := bricks) (day := day) (needs := needs) (c := 2) (by rw [fiC, show rackC xs k = 2 from (by rw [rackC, HLE.out, if_pos v0, v1]; rfl)]; rfl) (by omega))
      have V0 := Lib.hid v0; have V1 := Lib.hid v1; clear v0 v1
      go_enter Tryd.func13, Tryd.ntmps13
      go_wp2_with fail
      refine (asB (implValidRacks_any _ _ _ xs _ hA) V0.out).mono ?_; rintro e w1 ⟨rfl, hb1⟩
      go_wp2_with fail
      refine (asB (within_any _ _ _ _) V1.out).mono ?_; rintro e w' ⟨rfl, rfl⟩
      go_wp2_with fail
      go_ret2
      rw [E.out.1, E.out.2]
      exact RackC.none_ hb1
  · have E := Lib.hid (fi_bad (xs := xs) (k := k) (bricks := bricks) (day := day) (needs := needs) (c := 1) (by rw [fiC, show rackC xs k = 1 from (by rw [rackC, v0]; rfl)]; rfl) (by omega))
    have V0 := Lib.hid v0; clear v0
    go_enter Tryd.func13, Tryd.ntmps13
    go_wp2_with fail
    refine (asB (implValidRacks_any _ _ _ xs _ hA) V0.out).mono ?_; rintro e w1 ⟨rfl, hb1⟩
    go_wp2_with fail
    go_ret2
    rw [E.out.1, E.out.2]
    exact RackC.none_ hb1

end Go.Proofs.YtoghgbbepjpelaaDoor
