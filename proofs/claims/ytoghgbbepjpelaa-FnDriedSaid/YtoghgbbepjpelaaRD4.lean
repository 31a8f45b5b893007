/- The contracts of the draws of weather: weather, racks and weather. -/
import Derived.Test.YtoghgbbepjpelaaRD3
import Derived.Test.YtoghgbbepjpelaaOwX
import Derived.Deep.DeepCutAuto
namespace Go.Proofs.Ytoghgbbepjpelaa
open Go.RowKit
set_option linter.unusedVariables false

theorem byteCells_snoc (l : List UInt8) (c : UInt8) : Lib.byteCells (l ++ [c]) = Lib.byteCells l ++ [.int .u8 (c.toNat : Int)] := by simp [Lib.byteCells]
theorem byteCells_set (l : List UInt8) (k : Nat) (c : UInt8) : Lib.byteCells (l.set k c) = (Lib.byteCells l).set k (.int .u8 (c.toNat : Int)) := by simp [Lib.byteCells, List.map_set]
/-- A drawn text. -/
def TextD (p k : Nat) (m : Int) (w : World) (e : Ending) (w' : World) : Prop := ∃ s : ByteArray, e = .returned (.string s) ∧ s.size ≤ k ∧ Src w' p m ∧ Drew p w w'
theorem TextD.mk {p k : Nat} {m : Int} {w w' : World} {l : List UInt8} (hl : l.length ≤ k) (hS : Src w' p m) (hD : Drew p w w') : TextD p k m w (.returned (.string ⟨l.toArray⟩)) w' := ⟨_, rfl, by rw [Lib.size_eq]; simpa using hl, hS, hD⟩
set_option maxHeartbeats 4000000 in
theorem weather_any (p : Nat) (m : Int) (w : World) (h : Src w p m) (hm0 : 0 ≤ m) (hm : m ≤ 10000) :
    Calls Try.prog 64 #[.pointer (some ⟨p, 0, none⟩)] w (TextD p 61 (m + 200) w) := by
  have hp := h.lt
  go_enter Try.func64, Try.ntmps64
  go_wp2_with fail
  refine (pick_any p 24 m _ (h.below (by first | (go_grown; done) | (go_split_ands; assumption))) (by omega)).mono ?_; rintro e w1 ⟨x, rfl, ⟨hx0, hx1⟩, hS1, hD1⟩
  have hx2 : x < 24 := by omega
  have HO1 := Lib.hid ((OwnS.made' (e := 5) (base := w.heap.size) (w := w) (Nat.le_refl _) rfl).grown hD1 hp)
  have HS1 := Lib.hid hS1
  have HD1 : Hid (Drew p w w1) := Lib.hid ((Drew.of_below ((Below.refl _ _).alloc (Nat.le_refl _) _)).trans hD1)
  clear hS1 hx1 hD1 h
  go_wp2_with fail
  refine (one_any p 16 _ _ HS1.out (by omega)).mono ?_; rintro e w2 ⟨t, rfl, hS2, hD2⟩
  have HO2 := Lib.hid (HO1.out.grown hD2 hp)
  have HS2 := Lib.hid hS2
  have HD2 := Lib.hid (HD1.out.trans hD2)
  clear hS2 hD2 HO1 HS1 HD1
  go_upto_if 10 with fail
  go_cut [4] (fun s wx => ∃ n : Int, s = .int .i64 n ∧ 0 ≤ n ∧ n ≤ 61 ∧ OwnS wx w.heap.size 5 (.slice (some ⟨w.heap.size, 0, none⟩) 0 0) [] ∧ Src wx p (m + 6) ∧ Drew p w wx)
  case first =>
    cases t with
    | false =>
      go_wp2_with fail
      go_meet
      exact ⟨x, rfl, by omega, by omega, HO2.out, HS2.out.mono (by omega), HD2.out⟩
    | true =>
      go_wp2_with fail
      refine (pick_any p 2 _ _ HS2.out (by omega)).mono ?_; rintro e w3 ⟨y, rfl, ⟨hy0, hy1⟩, hS3, hD3⟩
      have hy2 : y < 2 := by omega
      have HO3 := Lib.hid (HO2.out.grown hD3 hp)
      have HS3 := Lib.hid hS3
      have HD3 := Lib.hid (HD2.out.trans hD3)
      clear hS3 hD3 hy1
      go_wp2_with fail
      go_meet
      exact ⟨60 + y, rfl, by omega, by omega, HO3.out, HS3.out.mono (by omega), HD3.out⟩
  case rest =>
    obtain ⟨n, rfl, hn0, hn1, hO, hS, hD⟩ := hcut
    obtain ⟨w3, rfl⟩ : ∃ u : World, u = wc := ⟨_, rfl⟩
    have HO3 := Lib.hid hO; have HS3 := Lib.hid hS; have HD3 := Lib.hid hD
    clear hO hS hD HO2 HS2 HD2
    go_wp2_with fail
    go_loopw [3, 5] (fun v i wr => ∃ (l : List UInt8), i = .int .i64 (l.length : Int) ∧ (l.length : Int) ≤ n ∧ OwnBy wr w.heap.size 5 v l ∧ Src wr p (m + 6 + 3 * l.length) ∧ Drew p w wr) (fun _ i _ => (n - intOf i).toNat)
    case atStart => exact ⟨[], rfl, by simp; omega, HO3.out, HS3.out.mono (by simp), HD3.out⟩
    case round =>
      obtain ⟨l, rfl, hln, hO, hS, hD⟩ := hrel
      have HO := Lib.hid hO; have HS := Lib.hid hS; have HD := Lib.hid hD
      have hz := hD.size
      obtain ⟨g, cap, rfl, hgl, hgb, hcell⟩ := hO.cells
      have HC := Lib.hid hcell
      clear hO hS hD hcell HO3 HS3 HD3
      obtain ⟨wo, rfl⟩ : ∃ u : World, u = wr := ⟨_, rfl⟩
      by_cases hlt : (l.length : Int) < n
      · have HL := Lib.hid (show (Lib.byteCells l).length ≤ 1048576 by rw [Lib.byteCells_length]; omega)
        go_wp2_with fail
        refine (pick_any p 5 _ _ HS.out (by omega)).mono ?_; rintro e w4 ⟨y, rfl, ⟨hy0, hy1⟩, hS4, hD4⟩
        have hcase : y = 0 ∨ y = 1 ∨ y = 2 ∨ y = 3 ∨ y = 4 := by omega
        have HO4 := Lib.hid (OwnS.grown HO.out hD4 hp)
        have HS4 := Lib.hid hS4
        have hz4 := hD4.size
        have HD4 := Lib.hid (HD.out.trans hD4)
        have hz5 : w.heap.size ≤ w4.heap.size := by omega
        clear hS4 hD4 hy0 hy1
        rcases hcase with rfl | rfl | rfl | rfl | rfl
        · go_wp2_with (at_builtin; refine wpList_app1 _ rfl (.tmp 19) (.tmp 23) 22 rfl w.heap.size 5 (.int .u8 0) 1 Try.underlying22 info_u8B rfl _ _ HO4.out rfl (.int .u8 115) _ rfl rfl rfl HL.out (by omega) hz5 ?_; intro v5 w5 hO5 hk5 hs5)
          have hB5 := hk5 (Nat.le_refl _) (Below.refl _ _)
          go_roundw
          case rel => exact ⟨l ++ [115], by simp, by simp; omega, by rw [OwnBy, byteCells_snoc]; exact hO5, (HS4.out.step hB5 hp).mono (by simp; omega), HD4.out.step hB5⟩
          case measure => simp [intOf]; omega
        · go_wp2_with (at_builtin; refine wpList_app1 _ rfl (.tmp 19) (.tmp 23) 22 rfl w.heap.size 5 (.int .u8 0) 1 Try.underlying22 info_u8B rfl _ _ HO4.out rfl (.int .u8 119) _ rfl rfl rfl HL.out (by omega) hz5 ?_; intro v5 w5 hO5 hk5 hs5)
          have hB5 := hk5 (Nat.le_refl _) (Below.refl _ _)
          go_roundw
          case rel => exact ⟨l ++ [119], by simp, by simp; omega, by rw [OwnBy, byteCells_snoc]; exact hO5, (HS4.out.step hB5 hp).mono (by simp; omega), HD4.out.step hB5⟩
          case measure => simp [intOf]; omega
        · go_wp2_with (at_builtin; refine wpList_app1 _ rfl (.tmp 19) (.tmp 23) 22 rfl w.heap.size 5 (.int .u8 0) 1 Try.underlying22 info_u8B rfl _ _ HO4.out rfl (.int .u8 99) _ rfl rfl rfl HL.out (by omega) hz5 ?_; intro v5 w5 hO5 hk5 hs5)
          have hB5 := hk5 (Nat.le_refl _) (Below.refl _ _)
          go_roundw
          case rel => exact ⟨l ++ [99], by simp, by simp; omega, by rw [OwnBy, byteCells_snoc]; exact hO5, (HS4.out.step hB5 hp).mono (by simp; omega), HD4.out.step hB5⟩
          case measure => simp [intOf]; omega
        · go_wp2_with (at_builtin; refine wpList_app1 _ rfl (.tmp 19) (.tmp 23) 22 rfl w.heap.size 5 (.int .u8 0) 1 Try.underlying22 info_u8B rfl _ _ HO4.out rfl (.int .u8 114) _ rfl rfl rfl HL.out (by omega) hz5 ?_; intro v5 w5 hO5 hk5 hs5)
          have hB5 := hk5 (Nat.le_refl _) (Below.refl _ _)
          go_roundw
          case rel => exact ⟨l ++ [114], by simp, by simp; omega, by rw [OwnBy, byteCells_snoc]; exact hO5, (HS4.out.step hB5 hp).mono (by simp; omega), HD4.out.step hB5⟩
          case measure => simp [intOf]; omega
        · go_wp2_with (at_builtin; refine wpList_app1 _ rfl (.tmp 19) (.tmp 23) 22 rfl w.heap.size 5 (.int .u8 0) 1 Try.underlying22 info_u8B rfl _ _ HO4.out rfl (.int .u8 102) _ rfl rfl rfl HL.out (by omega) hz5 ?_; intro v5 w5 hO5 hk5 hs5)
          have hB5 := hk5 (Nat.le_refl _) (Below.refl _ _)
          go_roundw
          case rel => exact ⟨l ++ [102], by simp, by simp; omega, by rw [OwnBy, byteCells_snoc]; exact hO5, (HS4.out.step hB5 hp).mono (by simp; omega), HD4.out.step hB5⟩
          case measure => simp [intOf]; omega
      · obtain rfl : n = (l.length : Int) := by omega
        by_cases hl0 : (0 : Int) < (l.length : Int)
        · have hl1 : 0 < l.length := by omega
          go_wp2_with fail
          refine (one_any p 16 _ _ HS.out (by omega)).mono ?_; rintro e w4 ⟨t, rfl, hS4, hD4⟩
          have hO4 := OwnS.grown HO.out hD4 hp
          have HO4 := Lib.hid hO4
          have HS4 := Lib.hid hS4
          have HD4 := Lib.hid (HD.out.trans hD4)
          have hgl4 := Nat.lt_of_lt_of_le hgl hD4.size
          clear hS4 hD4
          cases t with
          | false =>
            obtain ⟨g4, cap4, e4, _, _, hcell4⟩ := OwnBy.cells hO4
            simp only [Value.slice.injEq, Option.some.injEq, Addr.mk.injEq, and_true, true_and] at e4
            obtain ⟨rfl, rfl⟩ := e4
            have hcv := run_convert_bytes_back (P := Try.prog) w4 22 9 5 ⟨g, 0, none⟩ cap l Try.underlying22 Try.underlying5 Try.underlying9 (byteCell_of hcell4)
            clear hcell4 hO4
            go_wp2_with fail
            go_ret
            exact TextD.mk (by omega) (HS4.out.mono (by omega)) HD4.out
          | true =>
            have hlen : (Lib.byteCells l).length = l.length := Lib.byteCells_length l
            have c0 : w4.cell? ⟨g, 0, none⟩ = some (.int .u8 ((l[0]'hl1).toNat : Int)) := ((OwnS.parts (hlen ▸ hO4)).2.2.2.2.cellAt 0 (by rw [hlen]; omega)).trans (by simp [Lib.byteCells, hl1])
            have f0 : w4.frozen? ⟨g, 0, none⟩ = false := OwnS.fz hO4 0
            have hO5 := OwnS.set hO4 0 (.int .u8 120)
            have e5 : (Lib.byteCells l).set 0 (.int .u8 120) = Lib.byteCells (l.set 0 120) := by rw [byteCells_set]; rfl
            rw [e5] at hO5
            obtain ⟨g5, cap5, e5, _, _, hcell5⟩ := OwnBy.cells hO5
            simp only [Value.slice.injEq, Option.some.injEq, Addr.mk.injEq, and_true, true_and, List.length_set] at e5
            obtain ⟨rfl, rfl⟩ := e5
            have hcv := run_convert_bytes_back (P := Try.prog) (w4.setCell ⟨g, 0, none⟩ (.int .u8 120)) 22 9 5 ⟨g, 0, none⟩ cap (l.set 0 120) Try.underlying22 Try.underlying5 Try.underlying9 (byteCell_of hcell5)
            rw [List.length_set] at hcv
            clear hcell5 hO4 hO5 hlen
            go_wp2_with fail
            go_ret
            exact TextD.mk (by simp; omega) ((HS4.out.mono (by omega)).step (B := w.heap.size) ((Below.refl _ w4).setCell (p := ⟨g, 0, none⟩) hgb _) hp) (HD4.out.step ((Below.refl _ w4).setCell (p := ⟨g, 0, none⟩) hgb _))
        · have hle : l = [] := List.length_eq_zero_iff.1 (by omega)
          subst hle
          have hcv := run_convert_bytes_back (P := Try.prog) wo 22 9 5 ⟨g, 0, none⟩ cap [] Try.underlying22 Try.underlying5 Try.underlying9 (byteCell_of HC.out)
          rw [List.length_nil] at hcv hl0
          rw [List.length_nil]
          clear hl0 hlt
          go_wp2_with fail
          go_ret
          exact TextD.mk (l := []) (by simp) (HS.out.mono (by simp)) HD.out
end Go.Proofs.Ytoghgbbepjpelaa
