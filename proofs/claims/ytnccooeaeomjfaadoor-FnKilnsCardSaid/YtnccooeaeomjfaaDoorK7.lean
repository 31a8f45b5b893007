/- The contracts of a kiln's line of letters, of KilnLine and of StepOfLine. -/
import Derived.Test.YtnccooeaeomjfaaDoorK4
import Derived.Test.YtnccooeaeomjfaaDoorAp
namespace Go.Proofs.YtnccooeaeomjfaaDoor
open Go.RowKit
set_option linter.unusedVariables false

/-- The letter of a stage. -/
def letter (t : Int) : Int := nth [46, 115, 104, 102, 99, 100] t.toNat
/-- The letters of the first k chambers. -/
def lineL (ch : Int) (xs : List Int) (s : Int) : Nat → List Int
  | 0 => []
  | k + 1 => lineL ch xs s k ++ [letter (atF ch xs k s)]
theorem lineL_len (ch : Int) (xs : List Int) (s : Int) : ∀ k, (lineL ch xs s k).length = k := by
  intro k
  induction k with
  | zero => rfl
  | succ k ih => simp [lineL, ih]
/-- The line of a kiln at a step. -/
def lineF (ch : Int) (xs : List Int) (s : Int) : ByteArray := strOfNums (lineL ch xs s ch.toNat)

theorem info_u8 : (Tryd.prog.info? 5).map (fun i => (i.zero, i.size, i.bytes)) = some (some (.int .u8 0), 1, 1) := by kernel_rfl

theorem atF_range {ch : Int} {xs : List Int} (hL : lensOk xs = true) (c s : Int) : 0 ≤ atF ch xs c s ∧ atF ch xs c s ≤ 5 := by
  have := stg_range xs ((s - c) % ch) 0 (by omega)
  rw [lensOk_len hL] at this
  exact ⟨this.1, by have := this.2; unfold atF; omega⟩

set_option maxHeartbeats 2000000 in
theorem kilnLine_any (ch : Int) (A : Option Addr) (n cp : Nat) (xs : List Int) (s : Int) (w : World) (hA : Ints w A n xs) (hL : lensOk xs = true) (h6 : 6 ≤ ch) (h24 : ch ≤ 24) (hs0 : 0 ≤ s) (hs1 : s ≤ 100000) :
    Calls Tryd.prog 26 #[.agg #[.int .i64 ch, .slice A n cp], .int .i64 s] w fun e w' => e = .returned (.string (lineF ch xs s)) ∧ Below w.heap.size w w' := by
  have L := Lib.hid hL; clear hL
  obtain ⟨m, rfl⟩ := Int.eq_ofNat_of_zero_le (show 0 ≤ ch by omega)
  go_enter Tryd.func26, Tryd.ntmps26
  go_wp2
  go_loopw [5, 10] (fun v i wr => ∃ k : Nat, k ≤ m ∧ i = .int .i64 k ∧ OwnS wr (w.heap.size + 1) 5 v ((lineL m xs s k).map (.int .u8)) ∧ Below (w.heap.size + 1) (w.alloc (.cells #[.int .i64 m, .slice A n cp] 28)) wr) (fun _ i _ => m - (intOf i).toNat)
  case atStart => exact ⟨0, Nat.zero_le _, rfl, OwnS.made' (by simp) (by simp), (Below.refl _ _).alloc (by simp) _⟩
  case round =>
    obtain ⟨k, hk, rfl, hO, hB⟩ := hrel
    have c0 : wr.cell? ⟨w.heap.size, 0, none⟩ = some (.int .i64 m) := (hB.cell (p := ⟨w.heap.size, 0, none⟩) (by simp)).trans (by go_simp)
    have c1 : wr.cell? ⟨w.heap.size, 1, none⟩ = some (.slice A n cp) := (hB.cell (p := ⟨w.heap.size, 1, none⟩) (by simp)).trans (by go_simp)
    have hs := hB.size
    simp only [World.size_alloc] at hs
    have hl : w.heap.size < wr.heap.size := by omega
    have HO := Lib.hid hO; clear hO
    by_cases hlt : k < m
    · have hA1 : Ints wr A n xs := hA.below (Below.trans ((Below.refl _ _).alloc (Nat.le_refl _) _) (hB.mono (by omega)))
      have hr := atF_range (ch := m) L.out k s
      have hcase : atF m xs k s = 0 ∨ atF m xs k s = 1 ∨ atF m xs k s = 2 ∨ atF m xs k s = 3 ∨ atF m xs k s = 4 ∨ atF m xs k s = 5 := by omega
      clear hr
      rcases hcase with hv | hv | hv | hv | hv | hv
      all_goals
        have HV := Lib.hid hv; clear hv
        have hlen : ((lineL m xs s k).map (Value.int .u8)).length ≤ 1048576 := by rw [List.length_map, lineL_len]; omega
        have HL := Lib.hid hlen; clear hlen
        go_wp2_with fail
        refine (stageAt_any _ _ _ _ xs _ _ _ hA1 L.out h6 h24 (by omega) (by omega) (by omega) (by omega)).mono ?_; rw [HV.out]; rintro e w1 ⟨rfl, hb1⟩
        have hB1 : Below (w.heap.size + 1) (w.alloc (.cells #[.int .i64 m, .slice A n cp] 28)) w1 := hB.trans (hb1.mono (by omega))
        have HO1 := Lib.hid (HO.out.below hb1)
        have hs1 : w.heap.size + 1 ≤ w1.heap.size := by have := hb1.size; omega
        go_wp2_with (at_builtin; refine wpList_app1 _ rfl (.tmp 13) (.tmp 19) 24 rfl (w.heap.size + 1) 5 (.int .u8 0) 1 Tryd.underlying24 info_u8 rfl _ _ (HO1.out) rfl _ _ rfl (by simp) rfl HL.out (by omega) hs1 ?_; intro v2 w2 hO2 hk2 hs2)
        have hB2 := hk2 (Nat.le_refl _) hB1
        go_roundw
        case rel => exact ⟨k + 1, by omega, by go_num, by rw [lineL, List.map_append, HV.out]; exact hO2, hB2⟩
        case measure => simp [intOf]; omega
    · obtain rfl : k = m := by omega
      obtain ⟨g, cap, rfl, hg, hcell⟩ := HO.out.bytes
      have hcv := run_convert_bytes_arg (P := Tryd.prog) wr 24 5 Tryd.underlying24 Tryd.underlying5 g 0 _ cap _ rfl hcell 9 Tryd.underlying9
      go_wp2
      go_ret
      exact ⟨by rw [lineF]; simp, Below.trans ((Below.refl _ _).alloc (Nat.le_refl _) _) (hB.mono (by omega))⟩

theorem l17Names_any (w : World) :
    Calls Tryd.prog 17 #[] w fun e w' => e = .returned (.slice (some ⟨w.heap.size, 0, none⟩) 6 6) ∧ w' = w.alloc (.cells #[.string ⟨#[101, 109, 112, 116, 121]⟩, .string ⟨#[115, 101, 116]⟩, .string ⟨#[104, 101, 97, 116]⟩, .string ⟨#[102, 105, 114, 101]⟩, .string ⟨#[99, 111, 111, 108]⟩, .string ⟨#[100, 114, 97, 119]⟩] 9) := by
  go_enter Tryd.func17, Tryd.ntmps17
  go_wp2
  go_ret
  exact ⟨rfl, rfl⟩

end Go.Proofs.YtnccooeaeomjfaaDoor
