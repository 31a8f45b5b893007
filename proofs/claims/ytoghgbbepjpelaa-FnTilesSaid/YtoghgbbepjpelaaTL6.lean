/- The contracts of the draws of patterns. -/
import Derived.Test.YtoghgbbepjpelaaTL5
import Derived.Test.YtoghgbbepjpelaaSr
import Derived.Test.YtoghgbbepjpelaaBp
import Derived.Test.YtoghgbbepjpelaaAp3
import Derived.Test.YtoghgbbepjpelaaOwX
namespace Go.Proofs.Ytoghgbbepjpelaa
open Go.RowKit
set_option linter.unusedVariables false

theorem byteT_snoc (l : List UInt8) (c : UInt8) : Lib.byteCells (l ++ [c]) = Lib.byteCells l ++ [.int .u8 (c.toNat : Int)] := by simp [Lib.byteCells]
/-- A drawn row. -/
def TxtD (p k : Nat) (m : Int) (w : World) (e : Ending) (w' : World) : Prop := ∃ l : List UInt8, e = .returned (.string ⟨l.toArray⟩) ∧ l.length = k ∧ (∀ c ∈ l, c = 35 ∨ c = 46) ∧ Src w' p m ∧ Drew p w w'
set_option maxHeartbeats 4000000 in
theorem l04Some_any (p k : Nat) (m : Int) (w : World) (h : Src w p m) (hm0 : 0 ≤ m) (hm : m ≤ 100000) (hk : k ≤ 100) :
    Calls Try.prog 101 #[.pointer (some ⟨p, 0, none⟩), .string ⟨#[35, 46, 46]⟩, .int .i64 k] w (TxtD p k (m + 3 * k) w) := by
  have hp := h.lt
  have HO1 := Lib.hid (OwnS.made' (e := 5) (base := w.heap.size) (w := w) (Nat.le_refl _) rfl)
  have A1 : Below w.heap.size w (w.alloc (.cells #[] 5)) := (Below.refl _ _).alloc (Nat.le_refl _) _
  have HS1 := Lib.hid (h.below A1)
  have HD1 := Lib.hid (Drew.of_below (p := p) A1)
  clear h A1
  go_enter Try.func101, Try.ntmps101
  go_wp2_with fail
  go_loopw [7, 8] (fun v i wr => ∃ (l : List UInt8), i = .int .i64 (l.length : Int) ∧ l.length ≤ k ∧ (∀ c ∈ l, c = 35 ∨ c = 46) ∧ OwnBy wr w.heap.size 5 v l ∧ Src wr p (m + 3 * l.length) ∧ Drew p w wr) (fun _ i _ => k - (intOf i).toNat)
  case atStart => exact ⟨[], rfl, by simp, fun c hc => (by cases hc), HO1.out, HS1.out.mono (by simp), HD1.out⟩
  case round =>
    obtain ⟨l, rfl, hln, hdot, hO, hS, hD⟩ := hrel
    have HO := Lib.hid hO; have HS := Lib.hid hS; have HD := Lib.hid hD; have DOT := Lib.hid hdot
    have hz := hD.size
    obtain ⟨g, cap, rfl, hgl, hgb, hcell⟩ := hO.cells
    have HC := Lib.hid hcell
    clear hO hS hD hcell HO1 HS1 HD1 hdot
    obtain ⟨wo, rfl⟩ : ∃ u : World, u = wr := ⟨_, rfl⟩
    by_cases hlt : l.length < k
    · have HL := Lib.hid (show (Lib.byteCells l).length ≤ 1048576 by rw [Lib.byteCells_length]; omega)
      go_wp2_with fail
      refine (pick_any p 3 _ _ HS.out (by omega)).mono ?_; rintro e w4 ⟨y, rfl, ⟨hy0, hy1⟩, hS4, hD4⟩
      have hcase : y = 0 ∨ y = 1 ∨ y = 2 := by omega
      have HO4 := Lib.hid (OwnS.grown HO.out hD4 hp)
      have HS4 := Lib.hid hS4
      have hz4 := hD4.size
      have HD4 := Lib.hid (HD.out.trans hD4)
      have hz5 : w.heap.size ≤ w4.heap.size := by omega
      clear hS4 hD4 hy0 hy1
      rcases hcase with rfl | rfl | rfl
      · go_wp2_with (at_builtin; refine wpList_app1 _ rfl (.tmp 15) (.tmp 22) 22 rfl w.heap.size 5 (.int .u8 0) 1 Try.underlying22 info_u8B rfl _ _ HO4.out rfl (.int .u8 35) _ rfl rfl rfl HL.out (by omega) hz5 ?_; intro v5 w5 hO5 hk5 hs5)
        have hB5 := hk5 (Nat.le_refl _) (Below.refl _ _)
        go_roundw
        case rel => exact ⟨l ++ [35], by simp, by simp; omega, fun c hc => (by
          rw [List.mem_append, List.mem_singleton] at hc
          rcases hc with hc | rfl
          · exact DOT.out c hc
          · exact .inl rfl), by rw [OwnBy, byteT_snoc]; exact hO5, (HS4.out.step hB5 hp).mono (by simp; omega), HD4.out.step hB5⟩
        case measure => simp [intOf]; omega
      · go_wp2_with (at_builtin; refine wpList_app1 _ rfl (.tmp 15) (.tmp 22) 22 rfl w.heap.size 5 (.int .u8 0) 1 Try.underlying22 info_u8B rfl _ _ HO4.out rfl (.int .u8 46) _ rfl rfl rfl HL.out (by omega) hz5 ?_; intro v5 w5 hO5 hk5 hs5)
        have hB5 := hk5 (Nat.le_refl _) (Below.refl _ _)
        go_roundw
        case rel => exact ⟨l ++ [46], by simp, by simp; omega, fun c hc => (by
          rw [List.mem_append, List.mem_singleton] at hc
          rcases hc with hc | rfl
          · exact DOT.out c hc
          · exact .inr rfl), by rw [OwnBy, byteT_snoc]; exact hO5, (HS4.out.step hB5 hp).mono (by simp; omega), HD4.out.step hB5⟩
        case measure => simp [intOf]; omega
      · go_wp2_with (at_builtin; refine wpList_app1 _ rfl (.tmp 15) (.tmp 22) 22 rfl w.heap.size 5 (.int .u8 0) 1 Try.underlying22 info_u8B rfl _ _ HO4.out rfl (.int .u8 46) _ rfl rfl rfl HL.out (by omega) hz5 ?_; intro v5 w5 hO5 hk5 hs5)
        have hB5 := hk5 (Nat.le_refl _) (Below.refl _ _)
        go_roundw
        case rel => exact ⟨l ++ [46], by simp, by simp; omega, fun c hc => (by
          rw [List.mem_append, List.mem_singleton] at hc
          rcases hc with hc | rfl
          · exact DOT.out c hc
          · exact .inr rfl), by rw [OwnBy, byteT_snoc]; exact hO5, (HS4.out.step hB5 hp).mono (by simp; omega), HD4.out.step hB5⟩
        case measure => simp [intOf]; omega
    · obtain rfl : k = l.length := by omega
      have hcv := run_convert_bytes_back (P := Try.prog) wo 22 9 5 ⟨g, 0, none⟩ cap l Try.underlying22 Try.underlying5 Try.underlying9 (byteCell_of HC.out)
      clear hlt
      go_wp2_with fail
      go_ret
      exact ⟨l, rfl, rfl, DOT.out, HS.out, HD.out⟩

/-- Drawn rows, in a slice of the call's own. -/
def RowsD (p W H : Nat) (m : Int) (w : World) (e : Ending) (w' : World) : Prop := ∃ v xs, e = .returned v ∧ OwnS w' w.heap.size 9 v (txtV xs) ∧ PatOk W H xs ∧ Src w' p m ∧ Drew p w w'
set_option maxHeartbeats 4000000 in
theorem l14Some_any (p W H : Nat) (m : Int) (w : World) (h : Src w p m) (hm0 : 0 ≤ m) (hm : m ≤ 10000) (hW1 : 1 ≤ W) (hW : W ≤ 24) (hH1 : 1 ≤ H) (hH : H ≤ 24) :
    Calls Try.prog 82 #[.pointer (some ⟨p, 0, none⟩), .int .i64 W, .int .i64 H] w (RowsD p W H (m + 100 * H) w) := by
  have hp := h.lt
  have HO1 := Lib.hid (OwnS.made' (e := 9) (base := w.heap.size) (w := w) (Nat.le_refl _) rfl)
  have A1 : Below w.heap.size w (w.alloc (.cells #[] 9)) := (Below.refl _ _).alloc (Nat.le_refl _) _
  have HS1 := Lib.hid (h.below A1)
  have HD1 := Lib.hid (Drew.of_below (p := p) A1)
  clear h A1
  go_enter Try.func82, Try.ntmps82
  go_wp2_with fail
  go_loopw [7, 8] (fun v i wr => ∃ (xs : List (List UInt8)), i = .int .i64 (xs.length : Int) ∧ xs.length ≤ H ∧ (∀ r ∈ xs, r.length = W ∧ ∀ c ∈ r, c = 35 ∨ c = 46) ∧ OwnS wr w.heap.size 9 v (txtV xs) ∧ Src wr p (m + 100 * xs.length) ∧ Drew p w wr) (fun _ i _ => H - (intOf i).toNat)
  case atStart => exact ⟨[], rfl, by simp, fun c hc => (by cases hc), HO1.out, HS1.out.mono (by simp), HD1.out⟩
  case round =>
    obtain ⟨xs, rfl, hln, hdot, hO, hS, hD⟩ := hrel
    have HO := Lib.hid hO; have HS := Lib.hid hS; have HD := Lib.hid hD; have DOT := Lib.hid hdot
    have hz := hD.size
    clear hO hS hD HO1 HS1 HD1 hdot
    obtain ⟨wo, rfl⟩ : ∃ u : World, u = wr := ⟨_, rfl⟩
    by_cases hlt : xs.length < H
    · have HL := Lib.hid (show (txtV xs).length ≤ 1048576 by rw [txtV_len]; omega)
      go_wp2_with fail
      refine (l04Some_any p W _ _ HS.out (by omega) (by omega) (by omega)).mono ?_; rintro e w4 ⟨l, rfl, hl, hld, hS4, hD4⟩
      have HO4 := Lib.hid (OwnS.grown HO.out hD4 hp)
      have HS4 := Lib.hid hS4
      have hz4 := hD4.size
      have HD4 := Lib.hid (HD.out.trans hD4)
      have hz5 : w.heap.size ≤ w4.heap.size := by omega
      have HLD := Lib.hid (And.intro hl hld)
      clear hS4 hD4 hl hld
      go_wp2_with (at_builtin; refine wpList_app1 _ rfl (.tmp 15) (.tmp 19) 33 rfl w.heap.size 9 (.string ⟨#[]⟩) 16 Try.underlying33 info_txt rfl _ _ HO4.out rfl (.string ⟨l.toArray⟩) _ rfl rfl rfl HL.out (by omega) hz5 ?_; intro v5 w5 hO5 hk5 hs5)
      have hB5 := hk5 (Nat.le_refl _) (Below.refl _ _)
      go_roundw
      case rel => exact ⟨xs ++ [l], by simp, by simp; omega, fun r hr => (by
        rw [List.mem_append, List.mem_singleton] at hr
        rcases hr with hr | rfl
        · exact DOT.out r hr
        · exact HLD.out), by rw [txtV_snoc]; exact hO5, (HS4.out.step hB5 hp).mono (by simp; omega), HD4.out.step hB5⟩
      case measure => simp [intOf]; omega
    · obtain rfl : H = xs.length := by omega
      go_wp2_with fail
      go_ret
      exact ⟨_, xs, rfl, HO.out, ⟨rfl, fun y hy => (DOT.out _ (nt_mem hy)).1, fun y hy => (DOT.out _ (nt_mem hy)).2, hH1, hH, hW1, hW⟩, HS.out, HD.out⟩
end Go.Proofs.Ytoghgbbepjpelaa
