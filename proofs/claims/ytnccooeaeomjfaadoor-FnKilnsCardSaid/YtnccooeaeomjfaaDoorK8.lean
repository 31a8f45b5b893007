/- The contracts of KilnLine and of StepOfLine, the reference's and the program's. -/
import Derived.Test.YtnccooeaeomjfaaDoorK7
namespace Go.Proofs.YtnccooeaeomjfaaDoor
open Go.RowKit
set_option linter.unusedVariables false

/-- A text and its code. -/
def TextC (p : ByteArray × Int) (w : World) (e : Ending) (w' : World) : Prop := e = .returned (.tuple #[.string p.1, .int .i64 p.2]) ∧ Below w.heap.size w w'
theorem TextC.mk {p : ByteArray × Int} {w w' : World} {a : ByteArray} {b : Int} (h : p = (a, b)) (hb : Below w.heap.size w w') : TextC p w (.returned (.tuple #[.string a, .int .i64 b])) w' := by
  subst h; exact ⟨rfl, hb⟩

def klineF (ch : Int) (xs : List Int) (s : Int) : ByteArray × Int := if codeF ch xs 0 s 0 = 0 then (lineF ch xs s, 0) else (⟨#[]⟩, codeF ch xs 0 s 0)

set_option maxHeartbeats 400000 in
theorem implKilnLine_any (ch : Int) (A : Option Addr) (n cp : Nat) (xs : List Int) (s : Int) (w : World) (hA : Ints w A n xs) :
    Calls Tryd.prog 11 #[.agg #[.int .i64 ch, .slice A n cp], .int .i64 s] w (TextC (klineF ch xs s) w) := by
  by_cases g : codeF ch xs 0 s 0 = 0
  · have E := Lib.hid (show klineF ch xs s = (lineF ch xs s, 0) by rw [klineF, if_pos g])
    obtain ⟨p1, _, ⟨p4, p5⟩, _⟩ := codeF_zero g
    obtain ⟨p6, p7, p8, _⟩ := okB_parts p1
    have G := Lib.hid g; clear g
    clear p1
    have H1 := kilnCode_any ch A n cp xs 0 s 0 (w.alloc (.cells #[.int .i64 ch, .slice A n cp] 28)) (hA.alloc _)
    rw [G.out] at H1
    have H1' := Lib.hid H1; clear H1
    go_enter Tryd.func11, Tryd.ntmps11
    go_wp2_with fail
    (refine (H1'.out).mono ?_; rintro e w1 ⟨rfl, hb1⟩; obtain ⟨hc1, hf1⟩ := bcell hb1; have hz1 := hb1.size; (try simp only [World.size_alloc] at hz1); (try simp only [World.size_setCell] at hz1); (try simp only [World.size_drew] at hz1); (try have L1 : w.heap.size < w1.heap.size := by omega); have B1 : Below w.heap.size w w1 := bel_tr (by first | (go_grown; done) | (go_split_ands; assumption)) hb1)
    go_wp2_with fail
    (refine (kilnLine_any _ _ _ _ xs _ _ (hA.below (by first | (go_grown; done) | (go_split_ands; assumption))) p8 p6 p7 p4 p5).mono ?_; rintro e w2 ⟨rfl, hb2⟩; obtain ⟨hc2, hf2⟩ := bcell hb2; have hz2 := hb2.size; (try simp only [World.size_alloc] at hz2); (try simp only [World.size_setCell] at hz2); (try simp only [World.size_drew] at hz2); (try have L2 : w.heap.size < w2.heap.size := by omega); have B2 : Below w.heap.size w w2 := bel_tr (by first | (go_grown; done) | (go_split_ands; assumption)) hb2)
    go_wp2_with fail
    go_ret2
    exact TextC.mk E.out B2
  · have E := Lib.hid (show klineF ch xs s = (⟨#[]⟩, codeF ch xs 0 s 0) by rw [klineF, if_neg g])
    have g' : (codeF ch xs 0 s 0 != 0) = true := by simpa using g
    clear g
    go_enter Tryd.func11, Tryd.ntmps11
    go_wp2_with fail
    (refine (kilnCode_any _ _ _ _ xs _ _ _ _ (hA.below (by first | (go_grown; done) | (go_split_ands; assumption)))).mono ?_; rintro e w1 ⟨rfl, hb1⟩; obtain ⟨hc1, hf1⟩ := bcell hb1; have hz1 := hb1.size; (try simp only [World.size_alloc] at hz1); (try simp only [World.size_setCell] at hz1); (try simp only [World.size_drew] at hz1); (try have L1 : w.heap.size < w1.heap.size := by omega); have B1 : Below w.heap.size w w1 := bel_tr (by first | (go_grown; done) | (go_split_ands; assumption)) hb1)
    go_wp2_with fail
    go_ret2
    exact TextC.mk E.out B1

/-- The first step with a line. -/
def stepOfF (ch : Int) (xs : List Int) (line : ByteArray) : Int × Int :=
  if okB ch xs = true then (match (List.range ch.toNat).find? (fun j : Nat => decide (lineF ch xs j = line)) with | some j => ((j : Int), 0) | none => (0, 3)) else (0, 1)
theorem stepOfF_some {ch : Int} {xs : List Int} {line : ByteArray} {k : Nat} (g : okB ch xs = true) (hk : k < ch.toNat) (h : lineF ch xs k = line) (hn : ∀ j, j < k → lineF ch xs j ≠ line) : stepOfF ch xs line = ((k : Int), 0) := by
  have : (List.range ch.toNat).find? (fun j : Nat => decide (lineF ch xs j = line)) = some k := by
    rw [List.find?_range_eq_some]
    exact ⟨by simpa using h, by simpa using hk, fun j hj => by simpa using hn j hj⟩
  rw [stepOfF, if_pos g, this]
theorem stepOfF_none {ch : Int} {xs : List Int} {line : ByteArray} (g : okB ch xs = true) (hn : ∀ j, j < ch.toNat → lineF ch xs j ≠ line) : stepOfF ch xs line = (0, 3) := by
  have : (List.range ch.toNat).find? (fun j : Nat => decide (lineF ch xs j = line)) = none := by
    rw [List.find?_range_eq_none]
    exact fun j hj => by simpa using hn j hj
  rw [stepOfF, if_pos g, this]
theorem bytes_yes {a b : ByteArray} (h : (a.toList == b.toList) = true) : a = b := by
  have h2 := beq_iff_eq.1 h
  rw [ByteArray.toList_eq, ByteArray.toList_eq] at h2
  exact WideShapes.bytes_inj h2
theorem bytes_no {a b : ByteArray} (h : (a.toList == b.toList) = false) : a ≠ b := by
  rintro rfl; simp at h

set_option maxHeartbeats 1000000 in
theorem implStepOfLine_any (ch : Int) (A : Option Addr) (n cp : Nat) (xs : List Int) (line : ByteArray) (w : World) (hA : Ints w A n xs) :
    Calls Tryd.prog 12 #[.agg #[.int .i64 ch, .slice A n cp], .string line] w (Two (stepOfF ch xs line) w) := by
  rcases Bool.eq_false_or_eq_true (okB ch xs) with g | g
  · obtain ⟨p6, p7, p8, _⟩ := okB_parts g
    have G := Lib.hid g; clear g
    obtain ⟨m, rfl⟩ := Int.eq_ofNat_of_zero_le (show 0 ≤ ch by omega)
    go_enter Tryd.func12, Tryd.ntmps12
    go_wp2_with fail
    (refine (asB (validKiln_any _ _ _ _ xs _ (hA.below (by first | (go_grown; done) | (go_split_ands; assumption)))) G.out).mono ?_; rintro e w1 ⟨rfl, hb1⟩; obtain ⟨hc1, hf1⟩ := bcell hb1; have hz1 := hb1.size; (try simp only [World.size_alloc] at hz1); (try simp only [World.size_setCell] at hz1); (try simp only [World.size_drew] at hz1); (try have L1 : w.heap.size < w1.heap.size := by omega); have B1 : Below w.heap.size w w1 := bel_tr (by first | (go_grown; done) | (go_split_ands; assumption)) hb1)
    go_wp2_with fail
    have hB1 : Below (w.heap.size + 1) (w.alloc (.cells #[.int .i64 m, .slice A n cp] 28)) w1 := hb1.mono (by simp)
    clear hc1 hf1 hb1
    go_loopw [12] (fun i wr => ∃ k : Nat, k ≤ m ∧ i = .int .i64 k ∧ (∀ j, j < k → lineF m xs j ≠ line) ∧ Below (w.heap.size + 1) (w.alloc (.cells #[.int .i64 m, .slice A n cp] 28)) wr) (fun i _ => m - (intOf i).toNat)
    case atStart => exact ⟨0, Nat.zero_le _, rfl, fun j hj => absurd hj (by omega), hB1⟩
    case round =>
      obtain ⟨k, hk, rfl, hn, hB⟩ := hrel
      have HN := Lib.hid hn; clear hn
      have c0 : wr.cell? ⟨w.heap.size, 0, none⟩ = some (.int .i64 m) := (hB.cell (p := ⟨w.heap.size, 0, none⟩) (by simp)).trans (by go_simp)
      have c1 : wr.cell? ⟨w.heap.size, 1, none⟩ = some (.slice A n cp) := (hB.cell (p := ⟨w.heap.size, 1, none⟩) (by simp)).trans (by go_simp)
      have hs := hB.size
      simp only [World.size_alloc] at hs
      have hA1 : Ints wr A n xs := hA.below (Below.trans ((Below.refl _ _).alloc (Nat.le_refl _) _) (hB.mono (by omega)))
      by_cases hlt : k < m
      · go_wp2_with fail
        refine (kilnLine_any _ _ _ _ xs _ _ hA1 p8 p6 p7 (by omega) (by omega)).mono ?_; rintro e w2 ⟨rfl, hb2⟩
        go_wp2_with fail
        · have hy := Lib.hid (bytes_yes (by assumption))
          go_ret2
          exact Two.mk (stepOfF_some G.out (by simpa using hlt) hy.out HN.out) (Below.trans ((Below.refl _ _).alloc (Nat.le_refl _) _) ((hB.mono (by omega)).trans (hb2.mono (by omega))))
        · have hy := Lib.hid (bytes_no (by assumption))
          go_roundw
          case rel => exact ⟨k + 1, by omega, by go_num, fun j hj => by
            rcases Nat.lt_or_ge j k with h | h
            · exact HN.out j h
            · obtain rfl : j = k := by omega
              exact hy.out, hB.trans (hb2.mono (by omega))⟩
          case measure => simp [intOf]; omega
      · go_wp2
        go_ret2
        exact Two.mk (stepOfF_none G.out fun j hj => HN.out j (by simp at hj; omega)) (Below.trans ((Below.refl _ _).alloc (Nat.le_refl _) _) (hB.mono (by omega)))
  · have E := Lib.hid (show stepOfF ch xs line = (0, 1) by rw [stepOfF, g]; rfl)
    have G := Lib.hid g; clear g
    go_enter Tryd.func12, Tryd.ntmps12
    go_wp2_with fail
    (refine (asB (validKiln_any _ _ _ _ xs _ (hA.below (by first | (go_grown; done) | (go_split_ands; assumption)))) G.out).mono ?_; rintro e w1 ⟨rfl, hb1⟩; obtain ⟨hc1, hf1⟩ := bcell hb1; have hz1 := hb1.size; (try simp only [World.size_alloc] at hz1); (try simp only [World.size_setCell] at hz1); (try simp only [World.size_drew] at hz1); (try have L1 : w.heap.size < w1.heap.size := by omega); have B1 : Below w.heap.size w w1 := bel_tr (by first | (go_grown; done) | (go_split_ands; assumption)) hb1)
    go_wp2_with fail
    go_ret2
    exact Two.mk E.out B1
end Go.Proofs.YtnccooeaeomjfaaDoor
