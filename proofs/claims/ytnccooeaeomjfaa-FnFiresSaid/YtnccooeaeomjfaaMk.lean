/- The contracts of markInt64S and heldInt64S: a slice that the call may write is filled with rising numbers, and read again. -/
import Derived.Test.YtnccooeaeomjfaaRows
import Derived.Test.YtnccooeaeomjfaaFz
namespace Go.Proofs.Ytnccooeaeomjfaa
open Go.RowKit
set_option linter.unusedVariables false

/-- n rising numbers from k on. -/
def rise (k : Int) (n : Nat) : List Int := (List.range n).map fun j : Nat => k + (j : Int)
theorem rise_len (k : Int) (n : Nat) : (rise k n).length = n := by simp [rise]
theorem rise_nth {k : Int} {n j : Nat} (h : j < n) : nth (rise k n) j = k + (j : Int) := by
  rw [nth_lt (by rw [rise_len]; exact h)]; simp [rise]

def Marked (A : Option Addr) (n : Nat) (k : Int) (w : World) (e : Ending) (w' : World) : Prop :=
  e = .returned (.int .i64 (k + n)) ∧ Ints w' A n (rise k n) ∧ Fz w' A ∧ w.grownBy w' (A.map (·.block))

set_option maxHeartbeats 400000 in
theorem markInt_any (A : Option Addr) (n c : Nat) (xs : List Int) (k : Int) (w : World) (hA : Ints w A n xs) (hF : Fz w A) (h0 : 0 ≤ k) (h1 : k ≤ 1000000000) :
    Calls Try.prog 38 #[.slice A n c, .int .i64 k] w (Marked A n k w) := by
  have hn := hA.bound
  rcases Nat.eq_zero_or_pos n with hz | hp
  · subst hz
    go_enter Try.func38, Try.ntmps38
    go_wp2
    refine wp_loop_rounds 1 ?_; rw [rounds_succ]
    go_wp2
    go_ret
    exact ⟨ret_int (by simp), ⟨rise_len _ _, by omega, fun h => absurd h (by omega)⟩, hF, World.grownBy.refl _ _⟩
  · obtain ⟨b, off, rfl, hb, hc⟩ := hA.cell hp
    have HC := Lib.hid hc; clear hc
    have HF := Lib.hid (hF b off rfl); clear hF
    go_enter Try.func38, Try.ntmps38
    go_wp2
    go_loopw [1, 5] (fun s i wr => ∃ j : Nat, j ≤ n ∧ i = .int .i64 j ∧ s = .int .i64 (k + j) ∧ (∀ t, t < n → wr.cell? ⟨b, off + t, none⟩ = some (.int .i64 (if t < j then k + (t : Int) else nth xs t))) ∧ (∀ o, wr.frozen? ⟨b, o, none⟩ = false) ∧ w.grownBy wr (some b)) (fun _ i _ => n - (intOf i).toNat)
    case atStart => exact ⟨0, Nat.zero_le _, rfl, by simp, fun t ht => by rw [if_neg (by omega)]; exact HC.out t ht, HF.out, World.grownBy.refl _ _⟩
    case round =>
      obtain ⟨j, hj, rfl, rfl, hcells, hfz, hg⟩ := hrel
      have HX := Lib.hid hcells; clear hcells
      have HZ := Lib.hid hfz; clear hfz
      by_cases hlt : j < n
      · have hck := HX.out j hlt
        rw [if_neg (Nat.lt_irrefl j)] at hck
        have hfk := HZ.out (off + j)
        go_wp2
        go_roundw
        case rel => exact ⟨j + 1, by omega, by go_num, by congr 1 <;> omega, fun t ht => by
          by_cases e : t = j
          · subst e; rw [World.cell?_setCell_same _ _ _ hck, if_pos (by omega)]
          · rw [World.cell?_setCell_other _ _ _ _ (fun hh => e (by simp only [Addr.mk.injEq, true_and, and_true] at hh; omega)), HX.out t ht]
            congr 2
            split <;> split <;> first | rfl | omega, fun o => by rw [World.frozen?_setCell]; exact HZ.out o, grown_set hg _ _⟩
        case measure => simp [intOf]; omega
      · obtain rfl : j = n := by omega
        go_wp2
        go_ret
        exact ⟨rfl, ⟨rise_len _ _, hn, fun _ => ⟨b, off, rfl, Nat.lt_of_lt_of_le hb hg.size, fun t ht => by rw [HX.out t ht, if_pos ht, rise_nth ht]⟩⟩, fun b' off' e => by
          simp only [Option.some.injEq, Addr.mk.injEq, and_true] at e
          obtain ⟨rfl, rfl⟩ := e
          exact HZ.out, hg⟩

set_option maxHeartbeats 400000 in
theorem heldInt_any (A : Option Addr) (n c : Nat) (k : Int) (w : World) (hA : Ints w A n (rise k n)) (h0 : 0 ≤ k) (h1 : k ≤ 1000000000) :
    Calls Try.prog 39 #[.slice A n c, .int .i64 k] w fun e w' => e = .returned (.int .i64 (k + n)) ∧ w = w' := by
  have hn := hA.bound
  go_enter Try.func39, Try.ntmps39
  go_wp2
  go_loop [1, 5] (fun s i => ∃ j : Nat, j ≤ n ∧ i = .int .i64 j ∧ s = .int .i64 (k + j)) (fun _ i => n - (intOf i).toNat)
  case atStart => exact ⟨0, Nat.zero_le _, rfl, by simp⟩
  case round =>
    obtain ⟨j, hj, rfl, rfl⟩ := hrel
    by_cases hlt : j < n
    · obtain ⟨b, off, rfl, hb, hc⟩ := hA.cell (by omega)
      have hck := hc j hlt
      rw [rise_nth hlt] at hck
      have hne : ((k + (j : Int)) != (k + (j : Int))) = false := by simp
      clear hc
      go_wp2
      go_round
      case rel => exact ⟨j + 1, by omega, by go_num, by congr 1 <;> omega⟩
      case measure => simp [intOf]; omega
    · obtain rfl : j = n := by omega
      go_wp2
      go_ret
      exact ⟨rfl, rfl⟩
end Go.Proofs.Ytnccooeaeomjfaa
