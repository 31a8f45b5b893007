/- The contracts of markHeatRuleS and heldHeatRuleS: a slice of records that the call may write is filled with rising numbers, and read again. -/
import Derived.Test.YtoghgbbepjpelaaDoorRHeatRule
import Derived.Test.YtoghgbbepjpelaaDoorFz
namespace Go.Proofs.YtoghgbbepjpelaaDoor
open Go.RowKit
set_option linter.unusedVariables false

theorem HeatRuleS.grown {w w' : World} {A : Option Addr} {n : Nat} {xs : List HeatRule} {row : Option Nat} (h : HeatRuleS w A n xs) (hg : w.grownBy w' row) (hne : ∀ b off, A = some ⟨b, off, none⟩ → some b ≠ row) : HeatRuleS w' A n xs :=
  ⟨h.len, h.bound, fun hn => by
    obtain ⟨b, off, e, hb, hc⟩ := h.cell hn
    exact ⟨b, off, e, Nat.lt_of_lt_of_le hb hg.size, fun j hj => (hc j hj).keep fun o => World.cell?_of_block (hg.block b hb (hne b off e))⟩⟩
theorem HeatRuleS.cellsAt {w : World} {b off n : Nat} {xs : List HeatRule} (h : ∀ j, j < n → (nt xs j).lies w b (off + j * 3)) : CellsAt w b off (n * 3) (fun t => (nt xs (t / 3)).at (t % 3)) := fun t ht => by
  have hj : t / 3 < n := by omega
  obtain ⟨h0, h1, h2⟩ := h (t / 3) hj
  have hm : t % 3 < 3 := Nat.mod_lt _ (by omega)
  have e : t = t / 3 * 3 + t % 3 := by omega
  show w.cell? _ = some ((nt xs (t / 3)).at (t % 3))
  generalize t / 3 = q at *
  generalize t % 3 = r at *
  subst e
  match r, hm with
  | 0, _ => simpa [HeatRule.at, Nat.add_assoc] using h0
  | 1, _ => simpa [HeatRule.at, Nat.add_assoc] using h1
  | 2, _ => simpa [HeatRule.at, Nat.add_assoc] using h2

def MarkedHeatRule (A : Option Addr) (n : Nat) (k : Int) (w : World) (e : Ending) (w' : World) : Prop :=
  e = .returned (.int .i64 (k + 3 * (n : Int))) ∧ RiseC w' A (n * 3) k ∧ Fz w' A ∧ w.grownBy w' (A.map (·.block))
set_option maxHeartbeats 1000000 in
theorem markHeatRule_any (A : Option Addr) (n c : Nat) (xs : List HeatRule) (k : Int) (w : World) (hA : HeatRuleS w A n xs) (hF : Fz w A) (h0 : 0 ≤ k) (h1 : k ≤ 1000000000) :
    Calls Tryd.prog 33 #[.slice A n c, .int .i64 k] w (MarkedHeatRule A n k w) := by
  have hn := hA.bound
  rcases Nat.eq_zero_or_pos n with hz | hp
  · subst hz
    go_enter Tryd.func33, Tryd.ntmps33
    go_wp2
    refine wp_loop_rounds 1 ?_; rw [rounds_succ]
    go_wp2
    go_ret
    exact ⟨ret_int (by simp), fun h => absurd h (by omega), hF, World.grownBy.refl _ _⟩
  · obtain ⟨b, off, rfl, hb, hc⟩ := hA.cell hp
    have HC := Lib.hid (HeatRuleS.cellsAt hc); clear hc
    have HF := Lib.hid (hF b off rfl); clear hF
    go_enter Tryd.func33, Tryd.ntmps33
    go_wp2
    go_loopw [1, 5] (fun s i wr => ∃ (j : Nat) (v : Int) (g : Nat → Value), j ≤ n ∧ i = .int .i64 j ∧ s = .int .i64 v ∧ v = k + 3 * (j : Int) ∧ CellsAt wr b off (n * 3) g ∧ (∀ t, t < j * 3 → g t = .int .i64 (k + (t : Int)) ∨ False) ∧ (∀ o, wr.frozen? ⟨b, o, none⟩ = false) ∧ w.grownBy wr (some b)) (fun _ i _ => n - (intOf i).toNat)
    case atStart => exact ⟨0, k, _, Nat.zero_le _, rfl, rfl, by simp, HC.out, fun t ht => absurd ht (by omega), HF.out, World.grownBy.refl _ _⟩
    case round =>
      obtain ⟨j, v, g, hj, rfl, rfl, hv, hcells, hval, hfz, hg⟩ := hrel
      have HX := Lib.hid hcells; clear hcells
      have HY := Lib.hid hval; clear hval
      have HZ := Lib.hid hfz; clear hfz
      have hv0 : 0 ≤ v := by omega
      have hv1 : v ≤ 2000000000 + 3 * 1048576 := by omega
      have HV := Lib.hid hv; clear hv
      by_cases hlt : j < n
      · have hck0 : wr.cell? ⟨b, off + j * 3, none⟩ = some (g (j * 3)) := HX.out _ (by omega)
        have hfk0 := HZ.out (off + j * 3)
        have hck1 : wr.cell? ⟨b, off + j * 3 + 1, none⟩ = some (g (j * 3 + 1)) := by have h := HX.out (j * 3 + 1) (by omega); rwa [← Nat.add_assoc] at h
        have hfk1 := HZ.out (off + j * 3 + 1)
        have hck2 : wr.cell? ⟨b, off + j * 3 + 2, none⟩ = some (g (j * 3 + 2)) := by have h := HX.out (j * 3 + 2) (by omega); rwa [← Nat.add_assoc] at h
        have hfk2 := HZ.out (off + j * 3 + 2)
        go_wp2
        go_roundw
        case rel => exact ⟨j + 1, _, _, by omega, by go_num, rfl, by have := HV.out; omega, ((HX.out.set (s := j * 3) (by omega) rfl _).set (s := j * 3 + 1) (by omega) (by omega) _).set (s := j * 3 + 2) (by omega) (by omega) _, fun t ht => by
          skip
          have hv := HV.out
          refine .inl ?_
          by_cases e2 : t = j * 3 + 2
          · rw [if_pos e2]; congr 1; omega
          rw [if_neg e2]
          by_cases e1 : t = j * 3 + 1
          · rw [if_pos e1]; congr 1; omega
          rw [if_neg e1]
          by_cases e0 : t = j * 3
          · rw [if_pos e0]; congr 1; omega
          rw [if_neg e0]
          rcases HY.out t (by omega) with h | h
          · exact h
          · exact h.elim, fun o => by simp only [World.frozen?_setCell]; exact HZ.out o, grown_set (grown_set (grown_set hg _ _) _ _) _ _⟩
        case measure => simp [intOf]; omega
      · obtain rfl : j = n := by omega
        go_wp2
        go_ret
        exact ⟨ret_int (by have := HV.out; omega), fun _ => ⟨b, off, rfl, Nat.lt_of_lt_of_le hb hg.size, fun t ht => by
          rw [HX.out t ht]
          rcases HY.out t ht with h | h
          · rw [h]
          · exact h.elim⟩, fun b' off' e => by
          simp only [Option.some.injEq, Addr.mk.injEq, and_true] at e
          obtain ⟨rfl, rfl⟩ := e
          exact HZ.out, hg⟩
set_option maxHeartbeats 1000000 in
theorem heldHeatRule_any (A : Option Addr) (n c : Nat) (k : Int) (w : World) (hn : n ≤ 1048576) (hA : RiseC w A (n * 3) k) (h0 : 0 ≤ k) (h1 : k ≤ 1000000000) :
    Calls Tryd.prog 34 #[.slice A n c, .int .i64 k] w fun e w' => e = .returned (.int .i64 (k + 3 * (n : Int))) ∧ w = w' := by
  go_enter Tryd.func34, Tryd.ntmps34
  go_wp2
  go_loop [1, 5] (fun s i => ∃ (j : Nat) (v : Int), j ≤ n ∧ i = .int .i64 j ∧ s = .int .i64 v ∧ v = k + 3 * (j : Int)) (fun _ i => n - (intOf i).toNat)
  case atStart => exact ⟨0, k, Nat.zero_le _, rfl, rfl, by simp⟩
  case round =>
    obtain ⟨j, v, hj, rfl, rfl, hv⟩ := hrel
    have hv0 : 0 ≤ v := by omega
    have hv1 : v ≤ 2000000000 + 3 * 1048576 := by omega
    have HV := Lib.hid hv; clear hv
    by_cases hlt : j < n
    · obtain ⟨b, off, rfl, hb, hc⟩ := hA (by omega)
      have hck0 : w.cell? ⟨b, off + j * 3, none⟩ = some (.int .i64 (v)) := by
        have h := hc (j * 3) (by omega)
        rw [show k + ((j * 3 : Nat) : Int) = v by have := HV.out; omega] at h
        exact h
      have hne0 : ((v) != (v)) = false := by simp
      have hck1 : w.cell? ⟨b, off + j * 3 + 1, none⟩ = some (.int .i64 (v + 1)) := by
        have h := hc (j * 3 + 1) (by omega)
        rw [show k + ((j * 3 + 1 : Nat) : Int) = v + 1 by have := HV.out; omega] at h
        rwa [← Nat.add_assoc] at h
      have hne1 : ((v + 1) != (v + 1)) = false := by simp
      have hck2 : w.cell? ⟨b, off + j * 3 + 2, none⟩ = some (.int .i64 (v + 2)) := by
        have h := hc (j * 3 + 2) (by omega)
        rw [show k + ((j * 3 + 2 : Nat) : Int) = v + 2 by have := HV.out; omega] at h
        rwa [← Nat.add_assoc] at h
      have hne2 : ((v + 2) != (v + 2)) = false := by simp
      clear hc
      go_wp2
      go_round
      case rel => exact ⟨j + 1, _, by omega, by go_num, rfl, by have := HV.out; omega⟩
      case measure => simp [intOf]; omega
    · obtain rfl : j = n := by omega
      go_wp2
      go_ret
      exact ⟨ret_int (by have := HV.out; omega), rfl⟩
end Go.Proofs.YtoghgbbepjpelaaDoor
