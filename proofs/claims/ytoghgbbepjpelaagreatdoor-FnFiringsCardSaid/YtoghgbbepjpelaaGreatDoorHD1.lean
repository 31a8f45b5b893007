/- The contracts of the draws of rules: drawn rules. -/
import Derived.Test.YtoghgbbepjpelaaGreatDoorAHeatRule
import Derived.Test.YtoghgbbepjpelaaGreatDoorSr
import Derived.Test.YtoghgbbepjpelaaGreatDoorApN
namespace Go.Proofs.YtoghgbbepjpelaaGreatDoor
open Go.RowKit
set_option linter.unusedVariables false

theorem OwnHeatRule.kept {w w' : World} {base q g n cap : Nat} {l : List HeatRule} (h : OwnHeatRule w base (.slice (some ⟨g, 0, none⟩) n cap) l) (hb : w.grownBy w' (some q)) (hq : g ≠ q) : OwnHeatRule w' base (.slice (some ⟨g, 0, none⟩) n cap) l := by
  obtain ⟨g', cap', hv, hg, ho⟩ := h
  simp only [Value.slice.injEq, Option.some.injEq, Addr.mk.injEq, and_true] at hv
  obtain ⟨rfl, rfl, rfl⟩ := hv
  exact ⟨g, cap, rfl, hg, ho.kept hb (.inr (by simp [Value.ownBlock]; exact hq))⟩
/-- A rule as it is drawn. -/
def drawnR (r : HeatRule) : Prop := (0 ≤ r.Upto ∧ r.Upto ≤ 1000) ∧ (0 ≤ r.Rise ∧ r.Rise ≤ 100) ∧ 0 ≤ r.Hold ∧ r.Hold ≤ 4
theorem snoc_drawn {l : List HeatRule} {r : HeatRule} (h : ∀ q ∈ l, drawnR q) (hr : drawnR r) : ∀ q ∈ l ++ [r], drawnR q := fun q hq => by
  rcases List.mem_append.1 hq with h1 | h1
  · exact h q h1
  · obtain rfl := List.mem_singleton.1 h1
    exact hr
/-- Drawn rules, in a slice of the call's own. -/
def RulesD (p : Nat) (m : Int) (w : World) (e : Ending) (w' : World) : Prop := ∃ v l, e = .returned v ∧ OwnHeatRule w' w.heap.size v l ∧ 1 ≤ l.length ∧ l.length ≤ 4 ∧ (∀ r ∈ l, drawnR r) ∧ Src w' p m ∧ Drew p w w'
set_option maxHeartbeats 2000000 in
theorem l16Draw_any (p : Nat) (m : Int) (w : World) (h : Src w p m) (hm0 : 0 ≤ m) (hm : m ≤ 10000) :
    Calls Tryz.prog 42 #[.pointer (some ⟨p, 0, none⟩)] w (RulesD p (m + 40) w) := by
  have hp := h.lt
  go_enter Tryz.func42, Tryz.ntmps42
  go_wp2_with fail
  refine (pick_any p 4 m _ (h.below (by first | (go_grown; done) | (go_split_ands; assumption))) (by omega)).mono ?_; rintro e w1 ⟨x, rfl, ⟨hx0, hx1⟩, hS1, hD1⟩
  have hx2 : x < 4 := by omega
  have HO1 := Lib.hid ((OwnHeatRule.made' (base := w.heap.size) (w := w) (Nat.le_refl _) rfl).grown hD1 hp)
  have HS1 := Lib.hid hS1
  have HD1 : Hid (Drew p w w1) := Lib.hid ((Drew.of_below ((Below.refl _ _).alloc (Nat.le_refl _) _)).trans hD1)
  clear hS1 hx1 hD1 h
  go_wp2_with fail
  go_loopw [3, 4, 5] (fun v s t wr => ∃ (l : List HeatRule) (j a : Int), t = .int .i64 j ∧ s = .int .i64 a ∧ 0 ≤ j ∧ j ≤ 4 ∧ 0 ≤ a ∧ a ≤ 240 * (4 - j) ∧ OwnHeatRule wr w.heap.size v l ∧ 1 ≤ (l.length : Int) + j ∧ (l.length : Int) + j ≤ 4 ∧ (∀ r ∈ l, drawnR r) ∧ Src wr p (m + 40 - 8 * j) ∧ Drew p w wr) (fun _ _ t _ => (intOf t).toNat)
  case atStart => exact ⟨[], 1 + x, 0, rfl, rfl, by omega, by omega, by omega, by omega, HO1.out, by simp; omega, by simp; omega, by simp, HS1.out.mono (by omega), HD1.out⟩
  case round =>
    obtain ⟨l, j, a, rfl, rfl, hj0, hj2, ha0, ha1, hO, hlen0, hlen, hdr, hS, hD⟩ := hrel
    have HO := Lib.hid hO
    obtain ⟨g, cap, hv, hg, hr⟩ := hO
    have hgl := (hr.lt g (by simp [Value.ownBlock])).2
    subst hv
    have HS := Lib.hid hS; have HD := Lib.hid hD; have HDR := Lib.hid hdr
    have hz := hD.size
    clear hS hD hr HO1 HS1 HD1 hdr
    obtain ⟨wo, rfl⟩ : ∃ wo : World, wo = wr := ⟨_, rfl⟩
    by_cases hlt : 0 < j
    · go_wp2_with fail
      refine (pick_any p 8 _ _ HS.out (by omega)).mono ?_; rintro e w2 ⟨y, rfl, ⟨hy0, hy1⟩, hS2, hD2⟩
      have hy2 : y < 8 := by omega
      have HO2 := Lib.hid (HO.out.grown hD2 hp)
      have HS2 := Lib.hid hS2
      have hz2 := hD2.size
      have HD2 := Lib.hid (HD.out.trans hD2)
      clear hS2 hD2 hy1
      go_wp2_with fail
      refine (pick_any p 8 _ _ HS2.out (by omega)).mono ?_; rintro e w3 ⟨z, rfl, ⟨hzz0, hzz1⟩, hS3, hD3⟩
      have hzz2 : z < 8 := by omega
      have HO3 := Lib.hid (HO2.out.grown hD3 hp)
      have HS3 := Lib.hid hS3
      have hz3 := hD3.size
      have HD3 := Lib.hid (HD2.out.trans hD3)
      clear hS3 hD3 hzz1
      go_wp2_with fail
      have A3 : Below w3.heap.size w3 (w3.alloc (.cells #[.int .i64 (a + (100 + 20 * y)), .int .i64 (20 + 10 * z), .int .i64 0] 48)) := (Below.refl _ _).alloc (Nat.le_refl _) _
      refine (pick_any p 4 _ _ (HS3.out.below A3) (by omega)).mono ?_; rintro e w4 ⟨t, rfl, ⟨ht0, ht1⟩, hS4, hD4⟩
      have ht2 : t < 4 := by omega
      have hz4 := hD4.size; simp only [World.size_alloc] at hz4
      have HO4 := Lib.hid ((HO3.out.below A3).grown hD4 hp)
      have HS4 := Lib.hid hS4
      have HD4 := Lib.hid ((HD3.out.trans (Drew.of_below A3)).trans hD4)
      have c0 : w4.cell? ⟨w3.heap.size, 0, none⟩ = some (.int .i64 (a + (100 + 20 * y))) := (hD4.cell (by simp) (by omega) 0).trans (by go_simp)
      have c1 : w4.cell? ⟨w3.heap.size, 1, none⟩ = some (.int .i64 (20 + 10 * z)) := (hD4.cell (by simp) (by omega) 1).trans (by go_simp)
      have c2 : w4.cell? ⟨w3.heap.size, 2, none⟩ = some (.int .i64 0) := (hD4.cell (by simp) (by omega) 2).trans (by go_simp)
      have f2 : w4.frozen? ⟨w3.heap.size, 2, none⟩ = false := (hD4.frozen (by simp) (by omega) 2).trans (by go_simp)
      clear hS4 hD4 ht1 A3
      have S4 : Below w3.heap.size w4 (w4.setCell ⟨w3.heap.size, 2, none⟩ (.int .i64 t)) := (Below.refl w3.heap.size w4).setCell (Nat.le_refl _) _
      have HO5 := Lib.hid (HO4.out.kept (q := w3.heap.size) (w' := w4.setCell ⟨w3.heap.size, 2, none⟩ (.int .i64 t)) (grown_set (World.grownBy.refl _ _) 2 _) (by omega))
      have HDR2 := Lib.hid (snoc_drawn (r := ⟨a + (100 + 20 * y), 20 + 10 * z, t⟩) HDR.out ⟨⟨by show 0 ≤ a + _; omega, by show a + _ ≤ 1000; omega⟩, ⟨by show 0 ≤ 20 + 10 * z; omega, by show 20 + 10 * z ≤ 100; omega⟩, by show 0 ≤ t; omega, by show t ≤ 4; omega⟩)
      have HS5 := Lib.hid (HS4.out.step S4 (by omega))
      have HD5 := Lib.hid (HD4.out.step (S4.mono (by omega)))
      have hz5 : (w4.setCell ⟨w3.heap.size, 2, none⟩ (.int .i64 t)).heap.size = w4.heap.size := by simp [World.setCell]
      have HZ5 := Lib.hid hz5
      clear S4 hz5
      go_wp2_with (at_builtin; refine wpList_appHeatRule1 _ rfl (.tmp 30) (.tmp 32) rfl w.heap.size _ _ HO5.out rfl ⟨a + (100 + 20 * y), 20 + 10 * z, t⟩ _ rfl HZ5.out (by omega) (by rw [HZ5.out]; omega) ?_; intro v6 w6 hO6 hk6 hs6)
      have hB6 : Below w.heap.size (w4.setCell ⟨w3.heap.size, 2, none⟩ (.int .i64 t)) w6 := hk6 (Nat.le_refl _) (Below.refl _ _)
      go_roundw
      case rel => exact ⟨l ++ [⟨a + (100 + 20 * y), 20 + 10 * z, t⟩], j - 1, a + (100 + 20 * y), rfl, rfl, by omega, by omega, by omega, by omega, hO6, by simp; omega, by simp; omega, HDR2.out, (HS5.out.step hB6 hp).mono (by omega), HD5.out.step hB6⟩
      case measure => simp [intOf]; omega
    · obtain rfl : j = 0 := by omega
      have hlt0 : ¬ (0 : Int) < 0 := by omega
      go_wp2_with fail
      go_ret
      exact ⟨_, l, rfl, HO.out, by omega, by omega, HDR.out, HS.out.mono (by omega), HD.out⟩
end Go.Proofs.YtoghgbbepjpelaaGreatDoor
