/- The contracts of the law's own helpers over []int64: szInt64S, toInt64S, eqInt64S; the copies Clone and l00Own. -/
import Derived.Test.YtmapjepdcbpalaaRows
import Derived.Test.YtmapjepdcbpalaaBase
namespace Go.Proofs.Ytmapjepdcbpalaa
open Go.RowKit
set_option linter.unusedVariables false


theorem eqInt_any (A B : Option Addr) (n m c d : Nat) (xs ys : List Int) (w : World) (hA : Ints w A n xs) (hB : Ints w B m ys) :
    Calls Try.prog 31 #[.slice A n c, .slice B m d] w fun e w' => e = .returned (.bool (decide (xs = ys))) ∧ ∃ k, w' = w.drewN k := by
  have hn := hA.bound
  have hm := hB.bound
  by_cases hlen : n = m
  · obtain rfl := hlen
    have hL : Hid (xs.length = ys.length) := by rw [hA.len, hB.len]; rfl
    go_enter Try.func31, Try.ntmps31
    go_wp2
    go_loopw [5] (fun i wr => ∃ k : Nat, k ≤ n ∧ i = .int .i64 k ∧ (∀ j, j < k → nth xs j = nth ys j) ∧ ∃ q, wr = w.drewN q) (fun i _ => n - (intOf i).toNat)
    case atStart => exact ⟨0, Nat.zero_le _, rfl, fun j hj => absurd hj (by omega), 0, rfl⟩
    case round =>
      obtain ⟨k, hk, rfl, hall, q, rfl⟩ := hrel
      have HA := Lib.hid hall; clear hall
      by_cases hlt : k < n
      · obtain ⟨b, off, rfl, hb, hc⟩ := hA.cell (by omega)
        obtain ⟨b2, off2, rfl, hb2, hc2⟩ := hB.cell (by omega)
        have hck := hc k hlt
        have hck2 := hc2 k hlt
        clear hc hc2
        go_wp2
        go_quiet (fail)
        go_wp2
        · rename_i hne
          go_ret
          refine ⟨ret_bool ?_, q + nq, by simp [World.drewN_drewN]⟩
          have h2 : ¬ xs = ys := by rintro rfl; simp at hne
          simp [h2]
        · rename_i hne
          go_roundw
          case rel => exact ⟨k + 1, by omega, by go_num, fun j hj => by
            rcases Nat.lt_or_ge j k with h | h
            · exact HA.out j h
            · obtain rfl : j = k := by omega
              simpa using hne, _, rfl⟩
          case measure => simp [intOf]; omega
      · go_wp2
        go_ret
        refine ⟨ret_bool ?_, _, rfl⟩
        have h2 : xs = ys := eq_of_nth hL.out fun j hj => HA.out j (by rw [hA.len] at hj; omega)
        simp [h2]
  · have h2 : decide (xs = ys) = false := by
      rw [decide_eq_false_iff_not]; rintro rfl; exact hlen (hA.len.symm.trans hB.len)
    rw [h2]; clear h2
    have h3 : ((n : Int) != (m : Int)) = true := by simp; omega
    go_enter Try.func31, Try.ntmps31
    go_wp2
    go_ret
    exact ⟨rfl, 0, rfl⟩

theorem eqIntB_any (A B : Option Addr) (n m c d : Nat) (xs : List Int) (w : World) (hA : Ints w A n xs) (hB : Ints w B m xs) :
    Calls Try.prog 31 #[.slice A n c, .slice B m d] w fun e w' => e = .returned (.bool true) ∧ Below w.heap.size w w' :=
  (asB (eqInt_any A B n m c d xs xs w hA hB) (decide_eq_true rfl)).mono fun e w' h => ⟨h.1, by obtain ⟨_, q, rfl⟩ := h; exact below_drewN (Below.refl _ _) q⟩

end Go.Proofs.Ytmapjepdcbpalaa
