/- The contracts of the law's own helpers over []int64: szInt64S, toInt64S, eqInt64S; the copies Clone and l00Own. -/
import Derived.Test.YtnccooeaeomjfaaRows
import Derived.Test.YtnccooeaeomjfaaBase
namespace Go.Proofs.Ytnccooeaeomjfaa
open Go.RowKit
set_option linter.unusedVariables false

theorem szInt_any (A : Option Addr) (n c : Nat) (left : Int) (w : World) (hn : n ≤ 9223372036854775807) (h0 : 0 ≤ left) (h1 : left ≤ 1048576) :
    Calls Try.prog 44 #[.slice A n c, .int .i64 left] w fun e w' => e = .returned (.int .i64 (if left < n then -1 else left - n)) ∧ w = w' := by
  by_cases h : left < n
  all_goals
    simp only [h, if_true, if_false]
    go_enter Try.func44, Try.ntmps44
    go_wp2
    go_ret
    exact ⟨rfl, rfl⟩

theorem eqInt_any (A B : Option Addr) (n m c d : Nat) (xs ys : List Int) (w : World) (hA : Ints w A n xs) (hB : Ints w B m ys) :
    Calls Try.prog 23 #[.slice A n c, .slice B m d] w fun e w' => e = .returned (.bool (decide (xs = ys))) ∧ ∃ k, w' = w.drewN k := by
  have hn := hA.bound
  have hm := hB.bound
  by_cases hlen : n = m
  · obtain rfl := hlen
    have hL : Hid (xs.length = ys.length) := by rw [hA.len, hB.len]; rfl
    go_enter Try.func23, Try.ntmps23
    go_wp2
    go_loopw [5] (fun i wr => ∃ k : Nat, k ≤ n ∧ i = .int .i64 k ∧ (∀ j, j < k → nth xs j = nth ys j) ∧ ∃ q, wr = w.drewN q) (fun i _ => n - (intOf i).toNat)
    case atStart => exact ⟨0, Nat.zero_le _, rfl, fun j hj => absurd hj (by omega), 0, rfl⟩
    case round =>
      obtain ⟨k, hk, rfl, hall, q, rfl⟩ := hrel
      have HA := Lib.hid hall; clear hall
      by_cases hlt : k < n
      · obtain ⟨b, off, rfl, hb, hc⟩ := hA.cell (by omega)
        obtain ⟨b2, off2, rfl, hb2, hc2⟩ := hB.cell (by omega)
        have hck := hc k hlt
        have hck2 := hc2 k hlt
        clear hc hc2
        go_wp2
        go_quiet (fail)
        go_wp2
        · rename_i hne
          go_ret
          refine ⟨ret_bool ?_, q + nq, by simp [World.drewN_drewN]⟩
          have h2 : ¬ xs = ys := by rintro rfl; simp at hne
          simp [h2]
        · rename_i hne
          go_roundw
          case rel => exact ⟨k + 1, by omega, by go_num, fun j hj => by
            rcases Nat.lt_or_ge j k with h | h
            · exact HA.out j h
            · obtain rfl : j = k := by omega
              simpa using hne, _, rfl⟩
          case measure => simp [intOf]; omega
      · go_wp2
        go_ret
        refine ⟨ret_bool ?_, _, rfl⟩
        have h2 : xs = ys := eq_of_nth hL.out fun j hj => HA.out j (by rw [hA.len] at hj; omega)
        simp [h2]
  · have h2 : decide (xs = ys) = false := by
      rw [decide_eq_false_iff_not]; rintro rfl; exact hlen (hA.len.symm.trans hB.len)
    rw [h2]; clear h2
    have h3 : ((n : Int) != (m : Int)) = true := by simp; omega
    go_enter Try.func23, Try.ntmps23
    go_wp2
    go_ret
    exact ⟨rfl, 0, rfl⟩

theorem eqIntB_any (A B : Option Addr) (n m c d : Nat) (xs : List Int) (w : World) (hA : Ints w A n xs) (hB : Ints w B m xs) :
    Calls Try.prog 23 #[.slice A n c, .slice B m d] w fun e w' => e = .returned (.bool true) ∧ Below w.heap.size w w' :=
  (asB (eqInt_any A B n m c d xs xs w hA hB) (decide_eq_true rfl)).mono fun e w' h => ⟨h.1, by obtain ⟨_, q, rfl⟩ := h; exact below_drewN (Below.refl _ _) q⟩

theorem info_int : (Try.prog.info? 2).map (fun i => (i.zero, i.size, i.bytes)) = some (some (.int .i64 0), 1, 8) := by kernel_rfl

theorem toInt_fz (A : Option Addr) (n c : Nat) (xs : List Int) (w : World) (hA : Ints w A n xs) :
    Calls Try.prog 21 #[.slice A n c] w fun e w' => ∃ b, e = .returned (.slice (some ⟨b, 0, none⟩) n n) ∧ w.heap.size ≤ b ∧ b < w'.heap.size ∧ (∀ o, w'.frozen? ⟨b, o, none⟩ = false) ∧ Ints w' (some ⟨b, 0, none⟩) n xs ∧ Below w.heap.size w w' := by
  have hn := hA.bound
  have hmk := fun (W : World) => run_make_row' (P := Try.prog) 22 2 (.int .i64 0) 8 Try.underlying22 info_int rfl .i64 .i64 n (by omega) (by omega) W
  go_enter Try.func21, Try.ntmps21
  go_wp2
  clear hmk
  go_loopw [4] (fun i wr => ∃ k : Nat, k ≤ n ∧ i = .int .i64 k ∧ wr.rowIs w.heap.size 2 n (fun j => .int .i64 (if j < k then nth xs j else 0)) ∧ Below w.heap.size w wr) (fun i _ => n - (intOf i).toNat)
  case atStart => exact ⟨0, Nat.zero_le _, rfl, by simpa using World.rowIs_made w (.int .i64 0) n 2, (Below.refl _ _).alloc (Nat.le_refl _) _⟩
  case round =>
    obtain ⟨k, hk, rfl, hrow, hbel⟩ := hrel
    have HR := Lib.hid hrow; clear hrow
    by_cases hlt : k < n
    · obtain ⟨b, off, rfl, hb, hc⟩ := hA.cell (by omega)
      have hck : wr.cell? ⟨b, off + k, none⟩ = some (.int .i64 (nth xs k)) := (hbel.cell (p := ⟨b, off + k, none⟩) hb).trans (hc k hlt)
      have hcd := HR.out.cell hlt
      have hfd := HR.out.frozen k
      clear hc
      go_wp2
      go_roundw
      case rel => exact ⟨k + 1, by omega, by go_num, (HR.out.set k _).congr fun j hj => by
        by_cases e : j = k
        · subst e; simp
        · simp only [if_neg e]; congr 1; split <;> split <;> first | rfl | omega, hbel.setCell (Nat.le_refl _) _⟩
      case measure => simp [intOf]; omega
    · go_wp2
      go_ret
      obtain rfl : k = n := by omega
      exact ⟨_, rfl, Nat.le_refl _, HR.out.lt, HR.out.frozen, ⟨hA.len, hA.bound, fun hn0 => ⟨_, _, rfl, HR.out.lt, fun j hj => by rw [Nat.zero_add, HR.out.cell hj, if_pos hj]⟩⟩, hbel⟩
theorem toInt_any (A : Option Addr) (n c : Nat) (xs : List Int) (w : World) (hA : Ints w A n xs) :
    Calls Try.prog 21 #[.slice A n c] w fun e w' => ∃ b, e = .returned (.slice (some ⟨b, 0, none⟩) n n) ∧ w.heap.size ≤ b ∧ Ints w' (some ⟨b, 0, none⟩) n xs ∧ Below w.heap.size w w' :=
  (toInt_fz A n c xs w hA).mono fun e w' ⟨b, h1, h2, _, _, h5, h6⟩ => ⟨b, h1, h2, h5, h6⟩
end Go.Proofs.Ytnccooeaeomjfaa
