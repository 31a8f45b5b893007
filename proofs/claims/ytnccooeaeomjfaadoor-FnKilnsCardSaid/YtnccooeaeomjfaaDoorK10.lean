/- The contracts of ChambersIn, the reference's and the program's. -/
import Derived.Test.YtnccooeaeomjfaaDoorK7
import Derived.Test.YtnccooeaeomjfaaDoorMk
import Derived.Test.YtnccooeaeomjfaaDoorLs
namespace Go.Proofs.YtnccooeaeomjfaaDoor
open Go.RowKit
set_option linter.unusedVariables false

/-- The chambers below k that are in a stage. -/
def inL (ch : Int) (xs : List Int) (t s : Int) : Nat → List Int
  | 0 => []
  | k + 1 => inL ch xs t s k ++ (if atF ch xs k s = t then [(k : Int)] else [])
theorem inL_len (ch : Int) (xs : List Int) (t s : Int) : ∀ k, (inL ch xs t s k).length ≤ k := by
  intro k
  induction k with
  | zero => simp [inL]
  | succ k ih => rw [inL, List.length_append]; split <;> simp <;> omega
theorem inL_yes {ch : Int} {xs : List Int} {t s : Int} {k : Nat} (h : atF ch xs k s = t) : inL ch xs t s (k + 1) = inL ch xs t s k ++ [(k : Int)] := by rw [inL, if_pos h]
theorem inL_no {ch : Int} {xs : List Int} {t s : Int} {k : Nat} (h : ¬ atF ch xs k s = t) : inL ch xs t s (k + 1) = inL ch xs t s k := by rw [inL, if_neg h, List.append_nil]

def chambL (ch : Int) (xs : List Int) (t s : Int) : List Int := if codeF ch xs 0 s t = 0 then inL ch xs t s ch.toNat else []


set_option maxHeartbeats 1000000 in
theorem implChambersIn_any (ch : Int) (A : Option Addr) (n cp : Nat) (xs : List Int) (t s : Int) (w : World) (hA : Ints w A n xs) :
    Calls Tryd.prog 13 #[.agg #[.int .i64 ch, .slice A n cp], .int .i64 t, .int .i64 s] w (ListC (chambL ch xs t s) (codeF ch xs 0 s t) w) := by
  by_cases g : codeF ch xs 0 s t = 0
  · have E := Lib.hid (show chambL ch xs t s = inL ch xs t s ch.toNat by rw [chambL, if_pos g])
    obtain ⟨p1, _, ⟨p4, p5⟩, _⟩ := codeF_zero g
    obtain ⟨p6, p7, p8, _⟩ := okB_parts p1
    have G := Lib.hid g; clear g
    have P8 := Lib.hid p8
    clear p1 p8
    obtain ⟨m, rfl⟩ := Int.eq_ofNat_of_zero_le (show 0 ≤ ch by omega)
    have H1 := kilnCode_any m A n cp xs 0 s t (w.alloc (.cells #[.int .i64 m, .slice A n cp] 28)) (hA.alloc _)
    rw [G.out] at H1
    have H1' := Lib.hid H1; clear H1
    go_enter Tryd.func13, Tryd.ntmps13
    go_wp2_with fail
    (refine (H1'.out).mono ?_; rintro e w1 ⟨rfl, hb1⟩; obtain ⟨hc1, hf1⟩ := bcell hb1; have hz1 := hb1.size; (try simp only [World.size_alloc] at hz1); (try simp only [World.size_setCell] at hz1); (try simp only [World.size_drew] at hz1); (try have L1 : w.heap.size < w1.heap.size := by omega); have B1 : Below w.heap.size w w1 := bel_tr (by first | (go_grown; done) | (go_split_ands; assumption)) hb1)
    go_wp2_with fail
    have hB1 : Below (w.heap.size + 1) (w.alloc (.cells #[.int .i64 m, .slice A n cp] 28)) w1 := hb1.mono (by simp)
    clear hc1 hf1 hb1
    go_loopw [9, 21] (fun v i wr => ∃ k : Nat, k ≤ m ∧ i = .int .i64 k ∧ OwnS wr (w.heap.size + 1) 2 v ((inL m xs t s k).map (.int .i64)) ∧ Below (w.heap.size + 1) (w.alloc (.cells #[.int .i64 m, .slice A n cp] 28)) wr) (fun _ i _ => m - (intOf i).toNat)
    case atStart => exact ⟨0, Nat.zero_le _, rfl, OwnS.made' (by omega) rfl, hB1.alloc (by omega) _⟩
    case round =>
      obtain ⟨k, hk, rfl, hO, hB⟩ := hrel
      have HO := Lib.hid hO; clear hO
      have c0 : wr.cell? ⟨w.heap.size, 0, none⟩ = some (.int .i64 m) := (hB.cell (p := ⟨w.heap.size, 0, none⟩) (by simp)).trans (by go_simp)
      have c1 : wr.cell? ⟨w.heap.size, 1, none⟩ = some (.slice A n cp) := (hB.cell (p := ⟨w.heap.size, 1, none⟩) (by simp)).trans (by go_simp)
      have hs := hB.size
      simp only [World.size_alloc] at hs
      have hA1 : Ints wr A n xs := hA.below (Below.trans ((Below.refl _ _).alloc (Nat.le_refl _) _) (hB.mono (by omega)))
      have hlen := inL_len m xs t s k
      by_cases hlt : k < m
      · have HL := Lib.hid (show ((inL m xs t s k).map (Value.int .i64)).length ≤ 1048576 by rw [List.length_map]; omega)
        by_cases hq : atF m xs k s = t
        · have he : (atF m xs k s == t) = true := by simpa using hq
          have Y := Lib.hid (inL_yes hq); clear hq
          go_wp2_with fail
          refine (stageAt_any _ _ _ _ xs _ _ _ hA1 P8.out p6 p7 (by omega) (by omega) (by omega) (by omega)).mono ?_; rintro e w2 ⟨rfl, hb2⟩
          have hB2 : Below (w.heap.size + 1) (w.alloc (.cells #[.int .i64 m, .slice A n cp] 28)) w2 := hB.trans (hb2.mono (by omega))
          have HO2 := Lib.hid (HO.out.below hb2)
          have hs2 : w.heap.size + 1 ≤ w2.heap.size := by have := hb2.size; omega
          go_wp2_with (at_builtin; refine wpList_app1 _ rfl (.tmp 30) (.tmp 32) 26 rfl (w.heap.size + 1) 2 (.int .i64 0) 8 Tryd.underlying26 info_i64 rfl _ _ (HO2.out) rfl _ _ rfl (by simp) rfl HL.out (by omega) hs2 ?_; intro v3 w3 hO3 hk3 hs3)
          have hB3 := hk3 (Nat.le_refl _) hB2
          go_roundw
          case rel => exact ⟨k + 1, by omega, by go_num, by rw [Y.out, List.map_append]; exact hO3, hB3⟩
          case measure => simp [intOf]; omega
        · have he : (atF m xs k s == t) = false := by simpa using hq
          have Y := Lib.hid (inL_no hq); clear hq
          go_wp2_with fail
          refine (stageAt_any _ _ _ _ xs _ _ _ hA1 P8.out p6 p7 (by omega) (by omega) (by omega) (by omega)).mono ?_; rintro e w2 ⟨rfl, hb2⟩
          have hB2 : Below (w.heap.size + 1) (w.alloc (.cells #[.int .i64 m, .slice A n cp] 28)) w2 := hB.trans (hb2.mono (by omega))
          have HO2 := Lib.hid (HO.out.below hb2)
          go_wp2_with fail
          go_roundw
          case rel => exact ⟨k + 1, by omega, by go_num, by rw [Y.out]; exact HO2.out, hB2⟩
          case measure => simp [intOf]; omega
      · obtain rfl : k = m := by omega
        go_wp2
        go_ret2
        rw [E.out, G.out]
        exact ListC.own (by simpa using HO.out) (by simpa using Nat.le_trans hlen (by omega)) (Nat.le_succ _) (Below.trans ((Below.refl _ _).alloc (Nat.le_refl _) _) (hB.mono (by omega)))
  · have E := Lib.hid (show chambL ch xs t s = [] by rw [chambL, if_neg g])
    have g' : (codeF ch xs 0 s t != 0) = true := by simpa using g
    clear g
    go_enter Tryd.func13, Tryd.ntmps13
    go_wp2_with fail
    (refine (kilnCode_any _ _ _ _ xs _ _ _ _ (hA.below (by first | (go_grown; done) | (go_split_ands; assumption)))).mono ?_; rintro e w1 ⟨rfl, hb1⟩; obtain ⟨hc1, hf1⟩ := bcell hb1; have hz1 := hb1.size; (try simp only [World.size_alloc] at hz1); (try simp only [World.size_setCell] at hz1); (try simp only [World.size_drew] at hz1); (try have L1 : w.heap.size < w1.heap.size := by omega); have B1 : Below w.heap.size w w1 := bel_tr (by first | (go_grown; done) | (go_split_ands; assumption)) hb1)
    go_wp2_with fail
    go_ret2
    rw [E.out]
    exact ListC.none_ B1
end Go.Proofs.YtnccooeaeomjfaaDoor
