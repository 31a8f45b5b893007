/- The contracts of markHeatRuleS and heldHeatRuleS: a slice of records that the call may write is filled with rising numbers, and read again. -/
import Derived.Test.YtampdkdllkdikaaRHeatRule
import Derived.Test.YtampdkdllkdikaaFz
namespace Go.Proofs.Ytampdkdllkdikaa
open Go.RowKit
set_option linter.unusedVariables false

theorem HeatRuleS.grown {w w' : World} {A : Option Addr} {n : Nat} {xs : List HeatRule} {row : Option Nat} (h : HeatRuleS w A n xs) (hg : w.grownBy w' row) (hne : ∀ b off, A = some ⟨b, off, none⟩ → some b ≠ row) : HeatRuleS w' A n xs :=
  ⟨h.len, h.bound, fun hn => by
    obtain ⟨b, off, e, hb, hc⟩ := h.cell hn
    exact ⟨b, off, e, Nat.lt_of_lt_of_le hb hg.size, fun j hj => (hc j hj).keep fun o => World.cell?_of_block (hg.block b hb (hne b off e))⟩⟩
theorem HeatRuleS.cellsAt {w : World} {b off n : Nat} {xs : List HeatRule} (h : ∀ j, j < n → (nt xs j).lies w b (off + j * 3)) : CellsAt w b off (n * 3) (fun t => (nt xs (t / 3)).at (t % 3)) := fun t ht => by
  have hj : t / 3 < n := by omega
  obtain ⟨h0, h1, h2⟩ := h (t / 3) hj
  have hm : t % 3 < 3 := Nat.mod_lt _ (by omega)
  have e : t = t / 3 * 3 + t % 3 := by omega
  show w.cell? _ = some ((nt xs (t / 3)).at (t % 3))
  generalize t / 3 = q at *
  generalize t % 3 = r at *
  subst e
  match r, hm with
  | 0, _ => simpa [HeatRule.at, Nat.add_assoc] using h0
  | 1, _ => simpa [HeatRule.at, Nat.add_assoc] using h1
  | 2, _ => simpa [HeatRule.at, Nat.add_assoc] using h2

def MarkedHeatRule (A : Option Addr) (n : Nat) (k : Int) (w : World) (e : Ending) (w' : World) : Prop :=
  e = .returned (.int .i64 (k + 3 * (n : Int))) ∧ RiseC w' A (n * 3) k ∧ Fz w' A ∧ w.grownBy w' (A.map (·.block))
set_option maxHeartbeats 1000000 in
theorem markHeatRule_any (A : Option Addr) (n c : Nat) (xs : List HeatRule) (k : Int) (w : World) (hA : HeatRuleS w A n xs) (hF : Fz w A) (h0 : 0 ≤ k) (h1 : k ≤ 1000000000) :
    Calls Try.prog 37 #[.slice A n c, .int .i64 k] w (MarkedHeatRule A n k w) := by
  have hn := hA.bound
  rcases Nat.eq_zero_or_pos n with hz | hp
  · subst hz
    go_enter Try.func37, Try.ntmps37
    go_wp2
    refine wp_loop_rounds 1 ?_; rw [rounds_succ]
    go_wp2
    go_ret
    exact ⟨ret_int (by simp), fun h => absurd h (by omega), hF, World.grownBy.refl _ _⟩
  · obtain ⟨b, off, rfl, hb, hc⟩ := hA.cell hp
    have HC := Lib.hid (HeatRuleS.cellsAt hc); clear hc
    have HF := Lib.hid (hF b off rfl); clear hF
    go_enter Try.func37, Try.ntmps37
    go_wp2
    go_loopw [1, 5] (fun s i wr => ∃ (j : Nat) (v : Int) (g : Nat → Value), j ≤ n ∧ i = .int .i64 j ∧ s = .int .i64 v ∧ v = k + 3 * (j : Int) ∧ CellsAt wr b off (n * 3) g ∧ (∀ t, t < j * 3 → g t = .int .i64 (k + (t : Int)) ∨ False) ∧ (∀ o, wr.frozen? ⟨b, o, none⟩ = false) ∧ w.grownBy wr (some b)) (fun _ i _ => n - (intOf i).toNat)
    case atStart => exact ⟨0, k, _, Nat.zero_le _, rfl, rfl, by simp, HC.out, fun t ht => absurd ht (by omega), HF.out, World.grownBy.refl _ _⟩
    case round =>
      obtain ⟨j, v, g, hj, rfl, rfl, hv, hcells, hval, hfz, hg⟩ := hrel
      have HX := Lib.hid hcells; clear hcells
      have HY := Lib.hid hval; clear hval
      have HZ := Lib.hid hfz; clear hfz
      have hv0 : 0 ≤ v := by omega
      have hv1 : v ≤ 2000000000 + 3 * 1048576 := by omega
      have HV := Lib.hid hv; clear hv
      by_cases hlt : j < n
      · have hck0 : wr.cell? ⟨b, off + j * 3, none⟩ = some (g (j * 3)) := HX.out _ (by omega)
        have hfk0 := HZ.out (off + j * 3)
        have hck1 : wr.cell? ⟨b, off + j * 3 + 1, none⟩ = some (g (j * 3 + 1)) := by have h := HX.out (j * 3 + 1) (by omega); rwa [← Nat.add_assoc] at h
        have hfk1 := HZ.out (off + j * 3 + 1)
        have hck2 : wr.cell? ⟨b, off + j * 3 + 2, none⟩ = some (g (j * 3 + 2)) := by have h := HX.out (j * 3 + 2) (by omega); rwa [← Nat.add_assoc] at h
        have hfk2 := HZ.out (off + j * 3 + 2)
        go_wp2
        go_roundw
        case rel => exact ⟨j + 1, _, _, by omega, by go_num, rfl, by have := HV.out; omega, ((HX.out.set (s := j * 3) (by omega) rfl _).set (s := j * 3 + 1) (by omega) (by omega) _).set (s := j * 3 + 2) (by omega) (by omega) _, fun t ht => by
          skip
          have hv := HV.out
          refine .inl ?_
          by_cases e2 : t = j * 3 + 2
          · rw [if_pos e2]; congr 1; omega
          rw [if_neg e2]
          by_cases e1 : t = j * 3 + 1
          · rw [if_pos e1]; congr 1; omega
          rw [if_neg e1]
          by_cases e0 : t = j * 3
          · rw [if_pos e0]; congr 1; omega
          rw [if_neg e0]
          rcases HY.out t (by omega) with h | h
          · exact h
          · exact h.elim, fun o => by simp only [World.frozen?_setCell]; exact HZ.out o, grown_set (grown_set (grown_set hg _ _) _ _) _ _⟩
        case measure => simp [intOf]; omega
      · obtain rfl : j = n := by omega
        go_wp2
        go_ret
        exact ⟨ret_int (by have := HV.out; omega), fun _ => ⟨b, off, rfl, Nat.lt_of_lt_of_le hb hg.size, fun t ht => by
          rw [HX.out t ht]
          rcases HY.out t ht with h | h
          · rw [h]
          · exact h.elim⟩, fun b' off' e => by
          simp only [Option.some.injEq, Addr.mk.injEq, and_true] at e
          obtain ⟨rfl, rfl⟩ := e
          exact HZ.out, hg⟩
end Go.Proofs.Ytampdkdllkdikaa
