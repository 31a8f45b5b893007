/- The contracts of SameRacks, the reference's and the program's. -/
import Derived.Test.YtoghgbbepjpelaaDoorRRack
namespace Go.Proofs.YtoghgbbepjpelaaDoor
open Go.RowKit
set_option linter.unusedVariables false

def Rack.eqB (a b : Rack) : Bool := a.Room == b.Room && (a.Holds == b.Holds && (a.Since == b.Since && (a.Needs == b.Needs)))
def Rack.sameB (xs ys : List Rack) : Bool := decide (xs.length = ys.length) && (List.range xs.length).all fun k => Rack.eqB (nt xs k) (nt ys k)
theorem Rack.sameB_no {xs ys : List Rack} {k : Nat} (hk : k < xs.length) (h : Rack.eqB (nt xs k) (nt ys k) = false) : Rack.sameB xs ys = false := by
  have : ((List.range xs.length).all fun k => Rack.eqB (nt xs k) (nt ys k)) = false := by
    rw [List.all_eq_false]
    exact ⟨k, List.mem_range.2 hk, by rw [h]; simp⟩
  rw [Rack.sameB, this, Bool.and_false]
theorem Rack.sameB_yes {xs ys : List Rack} (hl : xs.length = ys.length) (h : ∀ k, k < xs.length → Rack.eqB (nt xs k) (nt ys k) = true) : Rack.sameB xs ys = true := by
  have : ((List.range xs.length).all fun k => Rack.eqB (nt xs k) (nt ys k)) = true := by
    rw [List.all_eq_true]
    exact fun k hk => h k (List.mem_range.1 hk)
  rw [Rack.sameB, this, hl]; simp

set_option maxHeartbeats 1000000 in
theorem specSameRacks_any (A : Option Addr) (n c : Nat) (xs : List Rack) (B : Option Addr) (m d : Nat) (ys : List Rack) (w : World) (hA : RackS w A n xs) (hB : RackS w B m ys) :
    Calls Tryd.prog 23 #[.slice A n c, .slice B m d] w fun e w' => e = .returned (.bool (Rack.sameB xs ys)) ∧ Below w.heap.size w w' := by
  have hn := hA.bound
  have hm := hB.bound
  by_cases hlen : n = m
  · obtain rfl := hlen
    have L := Lib.hid (show xs.length = ys.length by rw [hA.len, hB.len])
    have LX := Lib.hid hA.len
    go_enter Tryd.func23, Tryd.ntmps23
    go_wp2
    go_loopw [5] (fun i wr => ∃ k : Nat, k ≤ n ∧ i = .int .i64 k ∧ (∀ j, j < k → Rack.eqB (nt xs j) (nt ys j) = true) ∧ Below w.heap.size w wr) (fun i _ => n - (intOf i).toNat)
    case atStart => exact ⟨0, Nat.zero_le _, rfl, fun j hj => absurd hj (by omega), Below.refl _ _⟩
    case round =>
      obtain ⟨k, hk, rfl, hall, hbel⟩ := hrel
      have HA := Lib.hid hall; clear hall
      by_cases hlt : k < n
      · obtain ⟨b, off, rfl, hb, hc⟩ := (hA.below hbel).cell (by omega)
        obtain ⟨b2, off2, rfl, hb2, hc2⟩ := (hB.below hbel).cell (by omega)
        obtain ⟨hq0, hq1, hq2, hq3⟩ := hc k hlt
        obtain ⟨hp0, hp1, hp2, hp3⟩ := hc2 k hlt
        clear hc hc2
        rcases Bool.eq_false_or_eq_true (Rack.eqB (nt xs k) (nt ys k)) with g | g
        · have G := Lib.hid g
          simp only [Rack.eqB, Bool.and_eq_true] at g
          obtain ⟨g0, g1, g2, g3⟩ := g
          go_wp2
          go_quiet (fail)
          go_wp2
          go_roundw
          case rel => exact ⟨k + 1, by omega, by go_num, fun j hj => by
            rcases Nat.lt_or_ge j k with h | h
            · exact HA.out j h
            · obtain rfl : j = k := by omega
              exact G.out, bel_tr hbel (below_drewN (Below.refl _ _) _)⟩
          case measure => simp [intOf]; omega
        · have E := Lib.hid (Rack.sameB_no (by rw [LX.out]; exact hlt) g)
          rcases Bool.eq_false_or_eq_true ((nt xs k).Room == (nt ys k).Room) with g0 | g0
          · rcases Bool.eq_false_or_eq_true ((nt xs k).Holds == (nt ys k).Holds) with g1 | g1
            · rcases Bool.eq_false_or_eq_true ((nt xs k).Since == (nt ys k).Since) with g2 | g2
              · rcases Bool.eq_false_or_eq_true ((nt xs k).Needs == (nt ys k).Needs) with g3 | g3
                · exfalso; rw [Rack.eqB, g0, g1, g2, g3] at g; simp at g
                · clear g
                  go_wp2
                  go_quiet (fail)
                  go_wp2
                  go_ret
                  exact ⟨ret_bool E.out.symm, bel_tr hbel (below_drewN (Below.refl _ _) _)⟩
              · clear g
                go_wp2
                go_quiet (fail)
                go_wp2
                go_ret
                exact ⟨ret_bool E.out.symm, bel_tr hbel (below_drewN (Below.refl _ _) _)⟩
            · clear g
              go_wp2
              go_quiet (fail)
              go_wp2
              go_ret
              exact ⟨ret_bool E.out.symm, bel_tr hbel (below_drewN (Below.refl _ _) _)⟩
          · clear g
            go_wp2
            go_quiet (fail)
            go_wp2
            go_ret
            exact ⟨ret_bool E.out.symm, bel_tr hbel (below_drewN (Below.refl _ _) _)⟩
      · go_wp2
        go_ret
        obtain rfl : k = n := by omega
        exact ⟨ret_bool (Rack.sameB_yes L.out (by rw [LX.out]; exact HA.out)).symm, hbel⟩
  · have E := Lib.hid (show Rack.sameB xs ys = false by
      have : decide (xs.length = ys.length) = false := by rw [decide_eq_false_iff_not, hA.len, hB.len]; exact hlen
      rw [Rack.sameB, this]; rfl)
    have h3 : ((n : Int) != (m : Int)) = true := by simp; omega
    go_enter Tryd.func23, Tryd.ntmps23
    go_wp2
    go_ret
    exact ⟨ret_bool E.out.symm, Below.refl _ _⟩

set_option maxHeartbeats 1000000 in
theorem equalRack_any (A : Option Addr) (n c : Nat) (xs : List Rack) (B : Option Addr) (m d : Nat) (ys : List Rack) (w : World) (hA : RackS w A n xs) (hB : RackS w B m ys) :
    Calls Tryd.prog 59 #[.slice A n c, .slice B m d] w fun e w' => e = .returned (.bool (Rack.sameB xs ys)) ∧ Below w.heap.size w w' := by
  have hn := hA.bound
  have hm := hB.bound
  by_cases hlen : n = m
  · obtain rfl := hlen
    have L := Lib.hid (show xs.length = ys.length by rw [hA.len, hB.len])
    have LX := Lib.hid hA.len
    go_enter Tryd.func59, Tryd.ntmps59
    go_wp2
    go_loopw [13] (fun i wr => ∃ k : Nat, k ≤ n ∧ i = .int .i64 k ∧ (∀ j, j < k → Rack.eqB (nt xs j) (nt ys j) = true) ∧ Below w.heap.size w wr) (fun i _ => n - (intOf i).toNat)
    case atStart => exact ⟨0, Nat.zero_le _, rfl, fun j hj => absurd hj (by omega), Below.refl _ _⟩
    case round =>
      obtain ⟨k, hk, rfl, hall, hbel⟩ := hrel
      have HA := Lib.hid hall; clear hall
      by_cases hlt : k < n
      · obtain ⟨b, off, rfl, hb, hc⟩ := (hA.below hbel).cell (by omega)
        obtain ⟨b2, off2, rfl, hb2, hc2⟩ := (hB.below hbel).cell (by omega)
        obtain ⟨hq0, hq1, hq2, hq3⟩ := hc k hlt
        obtain ⟨hp0, hp1, hp2, hp3⟩ := hc2 k hlt
        clear hc hc2
        rcases Bool.eq_false_or_eq_true (Rack.eqB (nt xs k) (nt ys k)) with g | g
        · have G := Lib.hid g
          simp only [Rack.eqB, Bool.and_eq_true] at g
          obtain ⟨g0, g1, g2, g3⟩ := g
          go_wp2
          go_quiet (fail)
          go_wp2
          go_roundw
          case rel => exact ⟨k + 1, by omega, by go_num, fun j hj => by
            rcases Nat.lt_or_ge j k with h | h
            · exact HA.out j h
            · obtain rfl : j = k := by omega
              exact G.out, bel_tr hbel (below_drewN (Below.refl _ _) _)⟩
          case measure => simp [intOf]; omega
        · have E := Lib.hid (Rack.sameB_no (by rw [LX.out]; exact hlt) g)
          rcases Bool.eq_false_or_eq_true ((nt xs k).Room == (nt ys k).Room) with g0 | g0
          · rcases Bool.eq_false_or_eq_true ((nt xs k).Holds == (nt ys k).Holds) with g1 | g1
            · rcases Bool.eq_false_or_eq_true ((nt xs k).Since == (nt ys k).Since) with g2 | g2
              · rcases Bool.eq_false_or_eq_true ((nt xs k).Needs == (nt ys k).Needs) with g3 | g3
                · exfalso; rw [Rack.eqB, g0, g1, g2, g3] at g; simp at g
                · clear g
                  go_wp2
                  go_quiet (fail)
                  go_wp2
                  go_ret
                  exact ⟨ret_bool E.out.symm, bel_tr hbel (below_drewN (Below.refl _ _) _)⟩
              · clear g
                go_wp2
                go_quiet (fail)
                go_wp2
                go_ret
                exact ⟨ret_bool E.out.symm, bel_tr hbel (below_drewN (Below.refl _ _) _)⟩
            · clear g
              go_wp2
              go_quiet (fail)
              go_wp2
              go_ret
              exact ⟨ret_bool E.out.symm, bel_tr hbel (below_drewN (Below.refl _ _) _)⟩
          · clear g
            go_wp2
            go_quiet (fail)
            go_wp2
            go_ret
            exact ⟨ret_bool E.out.symm, bel_tr hbel (below_drewN (Below.refl _ _) _)⟩
      · go_wp2
        go_ret
        obtain rfl : k = n := by omega
        exact ⟨ret_bool (Rack.sameB_yes L.out (by rw [LX.out]; exact HA.out)).symm, hbel⟩
  · have E := Lib.hid (show Rack.sameB xs ys = false by
      have : decide (xs.length = ys.length) = false := by rw [decide_eq_false_iff_not, hA.len, hB.len]; exact hlen
      rw [Rack.sameB, this]; rfl)
    have h3 : ((n : Int) != (m : Int)) = true := by simp; omega
    go_enter Tryd.func59, Tryd.ntmps59
    go_wp2
    go_ret
    exact ⟨ret_bool E.out.symm, Below.refl _ _⟩

theorem implSameRacks_any (A : Option Addr) (n c : Nat) (xs : List Rack) (B : Option Addr) (m d : Nat) (ys : List Rack) (w : World) (hA : RackS w A n xs) (hB : RackS w B m ys) :
    Calls Tryd.prog 27 #[.slice A n c, .slice B m d] w fun e w' => e = .returned (.bool (Rack.sameB xs ys)) ∧ Below w.heap.size w w' := by
  go_enter Tryd.func27, Tryd.ntmps27
  go_wp2_with (go_at_call 59; refine (equalRack_any _ _ _ xs _ _ _ ys _ hA hB).mono ?_; rintro e w1 ⟨rfl, hb1⟩)
  go_ret
  exact ⟨rfl, hb1⟩
end Go.Proofs.YtoghgbbepjpelaaDoor
