/- The contracts of markBatchS and heldBatchS: a slice of records that the call may write is filled with rising numbers, and read again. -/
import Derived.Test.YtmapjepdcbpalaaRBatch
import Derived.Test.YtmapjepdcbpalaaFz
namespace Go.Proofs.Ytmapjepdcbpalaa
open Go.RowKit
set_option linter.unusedVariables false

theorem BatchS.grown {w w' : World} {A : Option Addr} {n : Nat} {xs : List Batch} {row : Option Nat} (h : BatchS w A n xs) (hg : w.grownBy w' row) (hne : ∀ b off, A = some ⟨b, off, none⟩ → some b ≠ row) : BatchS w' A n xs :=
  ⟨h.len, h.bound, fun hn => by
    obtain ⟨b, off, e, hb, hc⟩ := h.cell hn
    exact ⟨b, off, e, Nat.lt_of_lt_of_le hb hg.size, fun j hj => (hc j hj).keep fun o => World.cell?_of_block (hg.block b hb (hne b off e))⟩⟩
theorem BatchS.cellsAt {w : World} {b off n : Nat} {xs : List Batch} (h : ∀ j, j < n → (nt xs j).lies w b (off + j * 4)) : CellsAt w b off (n * 4) (fun t => (nt xs (t / 4)).at (t % 4)) := fun t ht => by
  have hj : t / 4 < n := by omega
  obtain ⟨h0, h1, h2, h3⟩ := h (t / 4) hj
  have hm : t % 4 < 4 := Nat.mod_lt _ (by omega)
  have e : t = t / 4 * 4 + t % 4 := by omega
  show w.cell? _ = some ((nt xs (t / 4)).at (t % 4))
  generalize t / 4 = q at *
  generalize t % 4 = r at *
  subst e
  match r, hm with
  | 0, _ => simpa [Batch.at, Nat.add_assoc] using h0
  | 1, _ => simpa [Batch.at, Nat.add_assoc] using h1
  | 2, _ => simpa [Batch.at, Nat.add_assoc] using h2
  | 3, _ => simpa [Batch.at, Nat.add_assoc] using h3

def MarkedBatch (A : Option Addr) (n : Nat) (k : Int) (w : World) (e : Ending) (w' : World) : Prop :=
  e = .returned (.int .i64 (k + 4 * (n : Int))) ∧ Fz w' A ∧ w.grownBy w' (A.map (·.block))
set_option maxHeartbeats 1000000 in
theorem markBatch_any (A : Option Addr) (n c : Nat) (xs : List Batch) (k : Int) (w : World) (hA : BatchS w A n xs) (hF : Fz w A) (h0 : 0 ≤ k) (h1 : k ≤ 1000000000) :
    Calls Try.prog 32 #[.slice A n c, .int .i64 k] w (MarkedBatch A n k w) := by
  have hn := hA.bound
  rcases Nat.eq_zero_or_pos n with hz | hp
  · subst hz
    go_enter Try.func32, Try.ntmps32
    go_wp2
    refine wp_loop_rounds 1 ?_; rw [rounds_succ]
    go_wp2
    go_ret
    exact ⟨ret_int (by simp), hF, World.grownBy.refl _ _⟩
  · obtain ⟨b, off, rfl, hb, hc⟩ := hA.cell hp
    have HC := Lib.hid (BatchS.cellsAt hc); clear hc
    have HF := Lib.hid (hF b off rfl); clear hF
    go_enter Try.func32, Try.ntmps32
    go_wp2
    go_loopw [1, 5] (fun s i wr => ∃ (j : Nat) (v : Int) (g : Nat → Value), j ≤ n ∧ i = .int .i64 j ∧ s = .int .i64 v ∧ v = k + 4 * (j : Int) ∧ CellsAt wr b off (n * 4) g ∧ (∀ t, t < j * 4 → g t = .int .i64 (k + (t : Int)) ∨ True) ∧ (∀ o, wr.frozen? ⟨b, o, none⟩ = false) ∧ w.grownBy wr (some b)) (fun _ i _ => n - (intOf i).toNat)
    case atStart => exact ⟨0, k, _, Nat.zero_le _, rfl, rfl, by simp, HC.out, fun t ht => absurd ht (by omega), HF.out, World.grownBy.refl _ _⟩
    case round =>
      obtain ⟨j, v, g, hj, rfl, rfl, hv, hcells, hval, hfz, hg⟩ := hrel
      have HX := Lib.hid hcells; clear hcells
      have HY := Lib.hid hval; clear hval
      have HZ := Lib.hid hfz; clear hfz
      have hv0 : 0 ≤ v := by omega
      have hv1 : v ≤ 2000000000 + 4 * 1048576 := by omega
      have HV := Lib.hid hv; clear hv
      by_cases hlt : j < n
      · have hck0 : wr.cell? ⟨b, off + j * 4, none⟩ = some (g (j * 4)) := HX.out _ (by omega)
        have hfk0 := HZ.out (off + j * 4)
        have hck1 : wr.cell? ⟨b, off + j * 4 + 1, none⟩ = some (g (j * 4 + 1)) := by have h := HX.out (j * 4 + 1) (by omega); rwa [← Nat.add_assoc] at h
        have hfk1 := HZ.out (off + j * 4 + 1)
        have hck2 : wr.cell? ⟨b, off + j * 4 + 2, none⟩ = some (g (j * 4 + 2)) := by have h := HX.out (j * 4 + 2) (by omega); rwa [← Nat.add_assoc] at h
        have hfk2 := HZ.out (off + j * 4 + 2)
        have hck3 : wr.cell? ⟨b, off + j * 4 + 3, none⟩ = some (g (j * 4 + 3)) := by have h := HX.out (j * 4 + 3) (by omega); rwa [← Nat.add_assoc] at h
        have hfk3 := HZ.out (off + j * 4 + 3)
        go_wp2
        go_roundw
        case rel => exact ⟨j + 1, _, _, by omega, by go_num, rfl, by have := HV.out; omega, (((HX.out.set (s := j * 4) (by omega) rfl _).set (s := j * 4 + 1) (by omega) (by omega) _).set (s := j * 4 + 2) (by omega) (by omega) _).set (s := j * 4 + 3) (by omega) (by omega) _, fun t ht => by
          exact .inr trivial
          , fun o => by simp only [World.frozen?_setCell]; exact HZ.out o, grown_set (grown_set (grown_set (grown_set hg _ _) _ _) _ _) _ _⟩
        case measure => simp [intOf]; omega
      · obtain rfl : j = n := by omega
        go_wp2
        go_ret
        exact ⟨ret_int (by have := HV.out; omega), fun b' off' e => by
          simp only [Option.some.injEq, Addr.mk.injEq, and_true] at e
          obtain ⟨rfl, rfl⟩ := e
          exact HZ.out, hg⟩
end Go.Proofs.Ytmapjepdcbpalaa
