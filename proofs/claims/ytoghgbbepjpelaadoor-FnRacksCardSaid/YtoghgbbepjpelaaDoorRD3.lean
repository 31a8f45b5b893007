/- The contracts of the draws of racks, third part: lists of racks, bent ones, weather. -/
import Derived.Test.YtoghgbbepjpelaaDoorRD2
namespace Go.Proofs.YtoghgbbepjpelaaDoor
open Go.RowKit
set_option linter.unusedVariables false

theorem RowFRack.list {w : World} {g n : Nat} {f : Nat → Rack} (h : RowFRack w g n f) (hn : n ≤ 1048576) : ∃ xs : List Rack, xs.length = n ∧ RackS w (some ⟨g, 0, none⟩) n xs := by
  refine ⟨(List.range n).map f, by simp, by simp, hn, fun _ => ⟨g, 0, rfl, h.lt, fun j hj => ?_⟩⟩
  have e : nt ((List.range n).map f) j = f j := by simp [nt, hj]
  rw [e, Nat.zero_add]
  exact h.cell j hj
/-- Drawn racks, in a slice of the call's own. -/
def RackD (p k : Nat) (m : Int) (w : World) (e : Ending) (w' : World) : Prop := ∃ v l, e = .returned v ∧ OwnRack w' w.heap.size v l ∧ l.length ≤ k ∧ Src w' p m ∧ Drew p w w'
set_option maxHeartbeats 2000000 in
theorem rackDraw_any (p : Nat) (m : Int) (w : World) (h : Src w p m) (hm0 : 0 ≤ m) (hm : m ≤ 10000) :
    Calls Tryd.prog 55 #[.pointer (some ⟨p, 0, none⟩)] w (RackD p 6 (m + 100) w) := by
  have hp := h.lt
  go_enter Tryd.func55, Tryd.ntmps55
  go_wp2_with fail
  refine (pick_any p 7 m _ (h.below (by first | (go_grown; done) | (go_split_ands; assumption))) (by omega)).mono ?_; rintro e w1 ⟨x, rfl, ⟨hx0, hx1⟩, hS1, hD1⟩
  have hx2 : x < 7 := by omega
  have HO1 := Lib.hid ((OwnRack.made' (base := w.heap.size) (w := w) (Nat.le_refl _) rfl).grown hD1 hp)
  have HS1 := Lib.hid hS1
  have HD1 : Hid (Drew p w w1) := Lib.hid ((Drew.of_below ((Below.refl _ _).alloc (Nat.le_refl _) _)).trans hD1)
  clear hS1 hx1 hD1 h
  go_wp2_with fail
  go_loopw [3, 4] (fun v t wr => ∃ (l : List Rack) (j : Int), t = .int .i64 j ∧ 0 ≤ j ∧ j ≤ 6 ∧ OwnRack wr w.heap.size v l ∧ (l.length : Int) + j ≤ 6 ∧ Src wr p (m + 100 - 14 * j) ∧ Drew p w wr) (fun _ t _ => (intOf t).toNat)
  case atStart => exact ⟨[], x, rfl, by omega, by omega, HO1.out, by simp; omega, HS1.out.mono (by omega), HD1.out⟩
  case round =>
    obtain ⟨l, j, rfl, hj0, hj2, hO, hlen, hS, hD⟩ := hrel
    have HO := Lib.hid hO
    obtain ⟨g, cap, hv, hg, hr⟩ := hO
    subst hv
    have HS := Lib.hid hS; have HD := Lib.hid hD
    have hz := hD.size
    clear hS hD hr HO1 HS1 HD1
    obtain ⟨wo, rfl⟩ : ∃ wo : World, wo = wr := ⟨_, rfl⟩
    by_cases hlt : 0 < j
    · go_wp2_with fail
      refine (newR_any p _ _ HS.out (by omega)).mono ?_; rintro e w2 ⟨r, rfl, hS2, hD2⟩
      have HO2 := Lib.hid (HO.out.grown hD2 hp)
      have HS2 := Lib.hid hS2
      have hz2 := hD2.size
      have HD2 := Lib.hid (HD.out.trans hD2)
      clear hS2 hD2
      go_wp2_with (at_builtin; refine wpList_appRack1 _ rfl (.tmp 12) (.tmp 15) rfl w.heap.size _ _ HO2.out rfl r _ rfl rfl (by omega) (by omega) ?_; intro v3 w3 hO3 hk3 hs3)
      have hB3 : Below w.heap.size w2 w3 := hk3 (Nat.le_refl _) (Below.refl _ _)
      go_roundw
      case rel => exact ⟨l ++ [r], j - 1, rfl, by omega, by omega, hO3, by simp; omega, (HS2.out.step hB3 hp).mono (by omega), HD2.out.step hB3⟩
      case measure => simp [intOf]; omega
    · obtain rfl : j = 0 := by omega
      have hlt0 : ¬ (0 : Int) < 0 := by omega
      go_wp2_with fail
      go_ret
      exact ⟨_, l, rfl, HO.out, by omega, HS.out.mono (by omega), HD.out⟩

/-- Drawn racks. -/
def RackM (p : Nat) (m : Int) (w : World) (e : Ending) (w' : World) : Prop := ∃ A n c xs, e = .returned (.slice A n c) ∧ RackS w' A n xs ∧ n ≤ 25 ∧ Src w' p m ∧ Drew p w w' ∧ ∀ b off, A = some ⟨b, off, none⟩ → w.heap.size ≤ b
theorem RackM.own {p base : Nat} {m : Int} {w w' : World} {v : Value} {xs : List Rack} (h : OwnRack w' base v xs) (hl : xs.length ≤ 25) (hbase : w.heap.size ≤ base) (hS : Src w' p m) (hD : Drew p w w') : RackM p m w (.returned v) w' := by
  obtain ⟨g, cap, rfl, hg, _, hR⟩ := h.row
  refine ⟨_, _, _, xs, rfl, hR.S rfl (by omega), hl, hS, hD, fun b off e => ?_⟩
  simp only [Option.some.injEq, Addr.mk.injEq, and_true] at e
  omega
theorem RackS.keptR {w w' : World} {A : Option Addr} {n p : Nat} {xs : List Rack} (h : RackS w A n xs) (hg : w.grownBy w' (some p)) (hne : ∀ b off, A = some ⟨b, off, none⟩ → p < b) : RackS w' A n xs :=
  ⟨h.len, h.bound, fun hn => by
    obtain ⟨b, off, e, hlt, hc⟩ := h.cell hn
    have hb := hne b off e
    exact ⟨b, off, e, Nat.lt_of_lt_of_le hlt hg.size, fun j hj => (hc j hj).keep fun o => World.cell?_of_block (hg.block b hlt (fun e => by simp only [Option.some.injEq] at e; omega))⟩⟩
theorem at_some {g B : Nat} (h : B ≤ g) : ∀ b off, (some ⟨g, 0, none⟩ : Option Addr) = some ⟨b, off, none⟩ → B ≤ b := fun b off e => by
  simp only [Option.some.injEq, Addr.mk.injEq, and_true] at e; omega
set_option maxHeartbeats 4000000 in
theorem bent_any (p : Nat) (m : Int) (w : World) (h : Src w p m) (hm0 : 0 ≤ m) (hm : m ≤ 1000) :
    Calls Tryd.prog 43 #[.pointer (some ⟨p, 0, none⟩)] w (RackM p (m + 600) w) := by
  have hp := h.lt
  go_enter Tryd.func43, Tryd.ntmps43
  go_wp2_with fail
  refine (rackDraw_any p m _ h hm0 (by omega)).mono ?_; rintro e w1 ⟨v, l, rfl, hO1, hl1, hS1, hD1⟩
  have HO1 := Lib.hid hO1
  obtain ⟨g, cap, hv, hg, hr⟩ := hO1
  subst hv
  have HS1 := Lib.hid hS1
  have HD1 := Lib.hid hD1
  have hz1 := hD1.size
  clear hS1 hD1 hr
  go_wp2_with fail
  refine (one_any p 24 _ _ HS1.out (by omega)).mono ?_; rintro e w2 ⟨t, rfl, hS2, hD2⟩
  have HS2 := Lib.hid hS2
  have hz2 := hD2.size
  have HD2 := Lib.hid (HD1.out.trans hD2)
  have HO2 := Lib.hid (HO1.out.grown hD2 hp)
  clear hS2 hD2 HO1 HS1 HD1
  cases t with
  | false =>
    have HO := HO2; have HS := HS2; have HD := HD2
    clear HO2 HS2 HD2
    by_cases hl0 : l.length = 0
    · have hl1 : ¬ (0 : Int) < (l.length : Int) := by omega
      clear hl0
      go_wp2_with fail
      go_ret
      exact RackM.own HO.out (by omega) (by omega) (HS.out.mono (by omega)) HD.out
    · have hl1 : (0 : Int) < (l.length : Int) := by omega
      go_wp2_with fail
      refine (one_any p 10 _ _ HS.out (by omega)).mono ?_; rintro e w4 ⟨t, rfl, hS4, hD4⟩
      have HO4 := Lib.hid (HO.out.grown hD4 (by omega))
      have HS4 := Lib.hid hS4
      have hz4 := hD4.size
      have HD4 := Lib.hid (HD.out.trans hD4)
      clear hS4 hD4 HO HS HD
      cases t with
      | false =>
        go_wp2_with fail
        go_ret
        exact RackM.own HO4.out (by omega) (by omega) (HS4.out.mono (by omega)) HD4.out
      | true =>
        go_wp2_with fail
        refine (pick_any p (l.length : Int) _ _ HS4.out (by omega)).mono ?_; rintro e w5 ⟨y, rfl, ⟨hy0, hy1⟩, hS5, hD5⟩
        obtain ⟨k, rfl⟩ := Int.eq_ofNat_of_zero_le hy0
        have hk : k < l.length := by omega
        have HO5 := Lib.hid (HO4.out.grown hD5 (by omega))
        have HS5 := Lib.hid hS5
        have HD5 := Lib.hid (HD4.out.trans hD5)
        obtain ⟨g', cap', hv', hgb, _, hRow⟩ := HO5.out.row
        simp only [Value.slice.injEq, Option.some.injEq, Addr.mk.injEq, and_true, true_and] at hv'
        obtain ⟨rfl, rfl⟩ := hv'
        have HRow := Lib.hid hRow
        clear hS5 hD5 hRow hy1
        go_wp2_with fail
        refine (spoil_any p g l.length k _ (nt l) _ HS5.out (by omega) HRow.out hk (by omega)).mono ?_; rintro e w6 ⟨f, rfl, hR6, hS6, hD6⟩
        have HR6 := Lib.hid hR6; have HS6 := Lib.hid hS6; have HD6 := Lib.hid (Drew2.drew HD5.out hD6 (by omega))
        clear hR6 hS6 hD6
        go_wp2_with fail
        go_ret
        obtain ⟨xs, hxl, hxs⟩ := HR6.out.list (by omega)
        exact ⟨_, _, _, xs, rfl, hxs, by omega, HS6.out.mono (by omega), HD6.out, at_some (by omega)⟩
  | true =>
    clear HO2
    go_wp2_with fail
    have A2 : Below w2.heap.size w2 (w2.alloc (.cells #[] 43)) := (Below.refl _ _).alloc (Nat.le_refl _) _
    refine (pick_any p 2 _ _ (HS2.out.below A2) (by omega)).mono ?_; rintro e w3 ⟨x, rfl, ⟨hx0, hx1⟩, hS3, hD3⟩
    have hx2 : x < 2 := by omega
    have HO3 := Lib.hid ((OwnRack.made' (base := w2.heap.size) (w := w2) (Nat.le_refl _) rfl).grown hD3 (by omega))
    have HS3 := Lib.hid hS3
    have hz3 := hD3.size; simp only [World.size_alloc] at hz3
    have HD3 := Lib.hid ((HD2.out.trans (Drew.of_below A2)).trans hD3)
    clear hS3 hx1 hD3 HS2 HD2 hl1 hg
    go_wp2_with fail
    go_loopw [3, 4] (fun v t wr => ∃ (l : List Rack) (j : Int), t = .int .i64 j ∧ 0 ≤ j ∧ j ≤ 21 ∧ OwnRack wr w2.heap.size v l ∧ (l.length : Int) + j ≤ 21 ∧ Src wr p (m + 500 - 14 * j) ∧ Drew p w wr ∧ w2.heap.size ≤ wr.heap.size) (fun _ t _ => (intOf t).toNat)
    case atStart => exact ⟨[], 20 + x, rfl, by omega, by omega, HO3.out, by simp; omega, HS3.out.mono (by omega), HD3.out, by omega⟩
    case round =>
      obtain ⟨l, j, rfl, hj0, hj2, hO, hlen, hS, hD, hzr⟩ := hrel
      have HO := Lib.hid hO
      obtain ⟨g, cap, hv, hg, hr⟩ := hO
      subst hv
      have HS := Lib.hid hS; have HD := Lib.hid hD
      have hz := hD.size
      clear hS hD hr HO3 HS3 HD3
      obtain ⟨wo, rfl⟩ : ∃ wo : World, wo = wr := ⟨_, rfl⟩
      by_cases hlt : 0 < j
      · go_wp2_with fail
        refine (newR_any p _ _ HS.out (by omega)).mono ?_; rintro e w4 ⟨r, rfl, hS4, hD4⟩
        have HO4 := Lib.hid (HO.out.grown hD4 (by omega))
        have HS4 := Lib.hid hS4
        have hz4 := hD4.size
        have HD4 := Lib.hid (HD.out.trans hD4)
        clear hS4 hD4
        go_wp2_with (at_builtin; refine wpList_appRack1 _ rfl (.tmp 17) (.tmp 20) rfl w2.heap.size _ _ HO4.out rfl r _ rfl rfl (by omega) (by omega) ?_; intro v5 w5 hO5 hk5 hs5)
        have hB5 : Below w2.heap.size w4 w5 := hk5 (Nat.le_refl _) (Below.refl _ _)
        go_roundw
        case rel => exact ⟨l ++ [r], j - 1, rfl, by omega, by omega, hO5, by simp; omega, (HS4.out.step hB5 (by omega)).mono (by omega), HD4.out.step (hB5.mono (by omega)), by omega⟩
        case measure => simp [intOf]; omega
      · obtain rfl : j = 0 := by omega
        have hlt0 : ¬ (0 : Int) < 0 := by omega
        by_cases hl0 : l.length = 0
        · have hl1 : ¬ (0 : Int) < (l.length : Int) := by omega
          clear hl0
          go_wp2_with fail
          go_ret
          exact RackM.own HO.out (by omega) (by omega) (HS.out.mono (by omega)) HD.out
        · have hl1 : (0 : Int) < (l.length : Int) := by omega
          go_wp2_with fail
          refine (one_any p 10 _ _ HS.out (by omega)).mono ?_; rintro e w4 ⟨t, rfl, hS4, hD4⟩
          have HO4 := Lib.hid (HO.out.grown hD4 (by omega))
          have HS4 := Lib.hid hS4
          have hz4 := hD4.size
          have HD4 := Lib.hid (HD.out.trans hD4)
          clear hS4 hD4 HO HS HD
          cases t with
          | false =>
            go_wp2_with fail
            go_ret
            exact RackM.own HO4.out (by omega) (by omega) (HS4.out.mono (by omega)) HD4.out
          | true =>
            go_wp2_with fail
            refine (pick_any p (l.length : Int) _ _ HS4.out (by omega)).mono ?_; rintro e w5 ⟨y, rfl, ⟨hy0, hy1⟩, hS5, hD5⟩
            obtain ⟨k, rfl⟩ := Int.eq_ofNat_of_zero_le hy0
            have hk : k < l.length := by omega
            have HO5 := Lib.hid (HO4.out.grown hD5 (by omega))
            have HS5 := Lib.hid hS5
            have HD5 := Lib.hid (HD4.out.trans hD5)
            obtain ⟨g', cap', hv', hgb, _, hRow⟩ := HO5.out.row
            simp only [Value.slice.injEq, Option.some.injEq, Addr.mk.injEq, and_true, true_and] at hv'
            obtain ⟨rfl, rfl⟩ := hv'
            have HRow := Lib.hid hRow
            clear hS5 hD5 hRow hy1
            go_wp2_with fail
            refine (spoil_any p g l.length k _ (nt l) _ HS5.out (by omega) HRow.out hk (by omega)).mono ?_; rintro e w6 ⟨f, rfl, hR6, hS6, hD6⟩
            have HR6 := Lib.hid hR6; have HS6 := Lib.hid hS6; have HD6 := Lib.hid (Drew2.drew HD5.out hD6 (by omega))
            clear hR6 hS6 hD6
            go_wp2_with fail
            go_ret
            obtain ⟨xs, hxl, hxs⟩ := HR6.out.list (by omega)
            exact ⟨_, _, _, xs, rfl, hxs, by omega, HS6.out.mono (by omega), HD6.out, at_some (by omega)⟩
end Go.Proofs.YtoghgbbepjpelaaDoor
