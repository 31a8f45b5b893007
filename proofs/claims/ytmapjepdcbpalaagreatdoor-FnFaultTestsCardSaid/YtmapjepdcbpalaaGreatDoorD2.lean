/- The contracts of the draws of lists of batches and of causes: l18Draw, A2Batches, A2Causes. -/
import Derived.Test.YtmapjepdcbpalaaGreatDoorD1
namespace Go.Proofs.YtmapjepdcbpalaaGreatDoor
open Go.RowKit
set_option linter.unusedVariables false

theorem Src.to {w : World} {p : Nat} {m m' : Int} (h : Src w p m) (hm : m ≤ m') : Src w p m' := h.mono hm
/-- Drawn batches. -/
def BatchD (p : Nat) (w : World) (e : Ending) (w' : World) : Prop := ∃ A n c xs, e = .returned (.slice A n c) ∧ BatchS w' A n xs ∧ n ≤ 11 ∧ (∀ b ∈ xs, smallB b = true) ∧ Drew p w w'
theorem BatchD.own {p base : Nat} {w w' : World} {v : Value} {xs : List Batch} (h : OwnBatch w' base v xs) (hl : (xs.length : Int) ≤ 11) (hs : ∀ b ∈ xs, smallB b = true) (hD : Drew p w w') : BatchD p w (.returned v) w' := by
  obtain ⟨g, cap, rfl, _, _, hR⟩ := h.row
  exact ⟨_, _, _, xs, rfl, hR.S rfl (by omega), by omega, hs, hD⟩
theorem small_set {b : Batch} (h : smallB b = true) (u : Bool) : smallB ⟨b.Clay, b.Mould, b.Chamber, u⟩ = true := h
theorem snoc_all {α : Type} {P : α → Prop} {l : List α} {a : α} (h : ∀ x ∈ l, P x) (ha : P a) : ∀ x ∈ l ++ [a], P x := fun x hx => by
  rcases List.mem_append.1 hx with h1 | h1
  · exact h x h1
  · rw [List.mem_singleton.1 h1]; exact ha
/-- Causes that lie in a block. -/
def CauseAt (w : World) (g : Nat) (cs : List Cause) : Prop := ∀ k, k < cs.length → (nt cs k).lies w g (k * 2)
theorem CauseAt.step {w w' : World} {g B : Nat} {cs : List Cause} (h : CauseAt w g cs) (hb : Below B w w') (hg : g < B) : CauseAt w' g cs := fun k hk => (h k hk).keep fun o => hb.cell (p := ⟨g, o, none⟩) hg
theorem CauseAt.drew {w w' : World} {g p : Nat} {cs : List Cause} (h : CauseAt w g cs) (hD : Drew p w w') (hg : g < w.heap.size) (hne : g ≠ p) : CauseAt w' g cs := fun k hk => (h k hk).keep fun o => hD.cell hg hne o
theorem OwnBatch.setX {w : World} {base X o : Nat} {v : Value} {l : List Batch} (h : OwnBatch w base v l) (u : Value) (hX : ∀ g n c, v = .slice (some ⟨g, 0, none⟩) n c → g ≠ X) : OwnBatch (w.setCell ⟨X, o, none⟩ u) base v l := by
  obtain ⟨g, cap, rfl, hg, ho⟩ := h
  exact ⟨g, cap, rfl, hg, ho.kept (row := some X) (grown_set (World.grownBy.refl _ _) o u) (.inr (by have := hX g _ _ rfl; simpa [Value.ownBlock] using this))⟩
set_option maxRecDepth 20000 in
set_option maxHeartbeats 4000000 in
theorem l18Draw_any (p : Nat) (m : Int) (w : World) (h : Src w p m) (hm0 : 0 ≤ m) (hm : m ≤ 1000) :
    Calls Tryz.prog 14 #[.pointer (some ⟨p, 0, none⟩)] w (BatchD p w) := by
  have hp := h.lt
  go_enter Tryz.func14, Tryz.ntmps14
  go_wp2_with fail
  refine (pick_any p 2 m _ (h.below (by first | (go_grown; done) | (go_split_ands; assumption))) (by omega)).mono ?_; rintro e w1 ⟨x, rfl, ⟨hx0, hx1⟩, hS1, hD1⟩
  have hx2 : x < 2 := by omega
  have HO1 := Lib.hid ((OwnC.made' (base := w.heap.size) (w := w) (Nat.le_refl _) rfl).grown hD1 hp)
  have HS1 := Lib.hid hS1
  have hz1 := hD1.size; simp only [World.size_alloc] at hz1
  have HD1 : Hid (Drew p w w1) := Lib.hid ((Drew.of_below ((Below.refl _ _).alloc (Nat.le_refl _) _)).trans hD1)
  clear hS1 hx1 hD1 h
  go_wp2_with fail
  go_loopw [3, 4] (fun v t wr => ∃ (cs : List Cause) (j : Int), t = .int .i64 j ∧ 0 ≤ j ∧ j ≤ 2 ∧ OwnC wr w.heap.size v cs ∧ (∀ c ∈ cs, causeB c = true) ∧ (cs.length : Int) + j ≤ 2 ∧ Src wr p (m + 60 - 10 * j) ∧ Drew p w wr) (fun _ t _ => (intOf t).toNat)
  case atStart => exact ⟨[], 1 + x, rfl, by omega, by omega, HO1.out, by simp, by simp; omega, HS1.out.to (by omega), HD1.out⟩
  case round =>
    obtain ⟨cs, j, rfl, hj0, hj2, hO, hcs, hlen, hS, hD⟩ := hrel
    have HO := Lib.hid hO
    obtain ⟨g, cap, hv, hg, hr⟩ := hO
    subst hv
    have HCS := Lib.hid hcs; have HS := Lib.hid hS; have HD := Lib.hid hD
    have hz := hD.size
    clear hcs hS hD hr HO1 HS1 HD1
    obtain ⟨wo, rfl⟩ : ∃ wo : World, wo = wr := ⟨_, rfl⟩
    by_cases hlt : 0 < j
    · go_wp2_with fail
      refine (new_any p _ _ HS.out (by omega)).mono ?_; rintro e w2 ⟨c, rfl, hc, hS2, hD2⟩
      have HO2 := Lib.hid (HO.out.grown hD2 hp)
      have HC2 := Lib.hid (snoc_all HCS.out hc)
      have HS2 := Lib.hid hS2
      have hz2 := hD2.size
      have HD2 := Lib.hid (HD.out.trans hD2)
      clear hS2 hD2 hc
      go_wp2_with (at_builtin; refine wpList_appC1 _ rfl (.tmp 17) (.tmp 20) rfl w.heap.size _ _ HO2.out rfl _ _ _ rfl rfl (by omega) (by omega) ?_; intro v3 w3 hO3 hk3 hs3)
      have hB3 : Below w.heap.size w2 w3 := hk3 (Nat.le_refl _) (Below.refl _ _)
      go_roundw
      case rel => exact ⟨cs ++ [c], j - 1, rfl, by omega, by omega, hO3, HC2.out, by simp; omega, (HS2.out.step hB3 hp).to (by omega), HD2.out.step hB3⟩
      case measure => simp [intOf]; omega
    · obtain rfl : j = 0 := by omega
      have hlt0 : ¬ (0 : Int) < 0 := by omega
      obtain ⟨g', cap', hv', hgb, _, hRow⟩ := HO.out.row
      simp only [Value.slice.injEq, Option.some.injEq, Addr.mk.injEq, and_true, true_and] at hv'
      obtain ⟨rfl, rfl⟩ := hv'
      have hgl := hRow.lt
      have hgp : g ≠ p := by omega
      have HC := Lib.hid (show CauseAt wo g cs from hRow.cell)
      clear hRow
      go_wp2_with fail
      refine (pick_any p 12 _ _ (HS.out.below (by first | (go_grown; done) | (go_split_ands; assumption))) (by omega)).mono ?_; rintro e w2 ⟨y, rfl, ⟨hy0, hy1⟩, hS2, hD2⟩
      have hy2 : y < 12 := by omega
      have hz2 := hD2.size; simp only [World.size_alloc] at hz2
      have hal : Below wo.heap.size wo (wo.alloc (.cells #[] 42)) := (Below.refl _ _).alloc (Nat.le_refl _) _
      have HC2 := Lib.hid ((HC.out.step hal hgl).drew hD2 (by simp; omega) hgp)
      have HB2 := Lib.hid ((OwnBatch.made' (base := wo.heap.size) (w := wo) (Nat.le_refl _) rfl).grown hD2 (by omega))
      have HS2 := Lib.hid hS2
      have HD2 := Lib.hid ((HD.out.step (hal.mono hz)).trans hD2)
      clear hS2 hy1 hD2 HS HD HO HC hal
      go_wp2_with fail
      go_loopw [5, 6] (fun v t wq => ∃ (xs : List Batch) (j : Int), t = .int .i64 j ∧ 0 ≤ j ∧ j ≤ 11 ∧ OwnBatch wq wo.heap.size v xs ∧ (∀ b ∈ xs, smallB b = true) ∧ (xs.length : Int) + j ≤ 11 ∧ Src wq p (m + 500 - 20 * j) ∧ Drew p w wq ∧ CauseAt wq g cs ∧ wo.heap.size ≤ wq.heap.size) (fun _ t _ => (intOf t).toNat)
      case atStart => exact ⟨[], y, rfl, by omega, by omega, HB2.out, by simp, by simp; omega, HS2.out.to (by omega), HD2.out, HC2.out, by omega⟩
      case round =>
        obtain ⟨xs, j, rfl, hj0, hj2, hB, hxs, hlx, hS, hD, hC, hz3⟩ := hrel
        have HB := Lib.hid hB
        obtain ⟨q, capq, hv, hq, hr⟩ := hB
        subst hv
        have hql : q < wr.heap.size := (hr.lt q (by simp [Value.ownBlock])).2
        have HXS := Lib.hid hxs; have HS := Lib.hid hS; have HD := Lib.hid hD; have HC := Lib.hid hC
        clear hxs hS hD hr hC HB2 HS2 HD2 HC2
        obtain ⟨wq, rfl⟩ : ∃ wo : World, wo = wr := ⟨_, rfl⟩
        by_cases hlt : 0 < j
        · go_wp2_with fail
          refine (newB_any p _ _ HS.out (by omega)).mono ?_; rintro e w3 ⟨b, rfl, hb, hS3, hD3⟩
          have HB3 := Lib.hid (HB.out.grown hD3 (by omega))
          have HC3 := Lib.hid (HC.out.drew hD3 (by omega) hgp)
          have HS3 := Lib.hid hS3
          have hz4 := hD3.size
          have HD3 := Lib.hid (HD.out.trans hD3)
          have HSM := Lib.hid hb
          clear hS3 hD3 hb HB HC HS HD
          go_wp2_with fail
          have hpX : p < w3.heap.size := by omega
          have hgX : g < w3.heap.size := by omega
          have hwX : w.heap.size ≤ w3.heap.size := by omega
          go_loopw [8] (fun t wi => ∃ (i : Nat) (u : Bool), i ≤ cs.length ∧ t = .int .i64 i ∧ wi.cell? ⟨w3.heap.size, 0, none⟩ = some (.int .i64 b.Clay) ∧ wi.cell? ⟨w3.heap.size, 1, none⟩ = some (.int .i64 b.Mould) ∧ wi.cell? ⟨w3.heap.size, 2, none⟩ = some (.int .i64 b.Chamber) ∧ wi.cell? ⟨w3.heap.size, 3, none⟩ = some (.bool u) ∧ (∀ o, wi.frozen? ⟨w3.heap.size, o, none⟩ = false) ∧ w3.heap.size < wi.heap.size ∧ Below w3.heap.size w3 wi) (fun t _ => cs.length - (intOf t).toNat)
          case atStart => exact ⟨0, b.Bad, Nat.zero_le _, rfl, by go_simp, by go_simp, by go_simp, by go_simp, fun o => by go_simp, by simp, (Below.refl _ _).alloc (Nat.le_refl _) _⟩
          case round =>
            obtain ⟨i, u, hi, rfl, c0, c1, c2, c3, cf, hXl, hbel⟩ := hrel
            have f3 := cf 3
            have CF := Lib.hid cf; have HBL := Lib.hid hbel
            clear cf hbel
            obtain ⟨wi, rfl⟩ : ∃ wo : World, wo = wr := ⟨_, rfl⟩
            by_cases hic : i < cs.length
            · obtain ⟨r0, r1⟩ := (HC3.out.step HBL.out hgX) i hic
              cases u with
              | true =>
                go_wp2_with fail
                go_region
                go_wp2_with fail
                go_roundw
                case rel => exact ⟨i + 1, true, by omega, by go_num, by go_simp, by go_simp, by go_simp, by go_simp, fun o => by have := CF.out o; go_simp, by first | (simp; omega) | (simp [World.setCell]; omega), by have := HBL.out; go_grown⟩
                case measure => simp [intOf]; omega
              | false =>
                go_wp2_with fail
                go_region_with ((go_at_call 32; refine (l18Has_any ⟨b.Clay, b.Mould, b.Chamber, false⟩ (nt cs i) _).mono ?_; rintro e w5 ⟨rfl, hb5⟩; obtain ⟨hc5, hf5⟩ := bcell hb5; have k0 : w5.cell? ⟨w3.heap.size, 0, none⟩ = some (.int .i64 b.Clay) := (hc5 _ 0 (by simpa using hXl)).trans (by simpa using c0); have k1 : w5.cell? ⟨w3.heap.size, 1, none⟩ = some (.int .i64 b.Mould) := (hc5 _ 1 (by simpa using hXl)).trans (by simpa using c1); have k2 : w5.cell? ⟨w3.heap.size, 2, none⟩ = some (.int .i64 b.Chamber) := (hc5 _ 2 (by simpa using hXl)).trans (by simpa using c2); have k3 : w5.cell? ⟨w3.heap.size, 3, none⟩ = some (.bool false) := (hc5 _ 3 (by simpa using hXl)).trans (by simpa using c3); have j3 : w5.frozen? ⟨w3.heap.size, 3, none⟩ = false := (hf5 _ 3 (by simpa using hXl)).trans (by simpa using f3); have KF := Lib.hid (show ∀ o, w5.frozen? ⟨w3.heap.size, o, none⟩ = false from fun o => (hf5 _ o (by simpa using hXl)).trans (by simpa using CF.out o)); have hz5 := hb5.size; (try simp only [World.size_drew] at hz5); have B5 := Lib.hid (show Below w3.heap.size w3 w5 from HBL.out.trans (by first | exact hb5.mono (by omega) | exact (below_drew (Below.refl _ _)).trans (hb5.mono (by simp; omega)))); clear hc5 hf5))
                all_goals
                  go_wp2_with fail
                  go_roundw
                  case rel => exact ⟨i + 1, hasB ⟨b.Clay, b.Mould, b.Chamber, false⟩ (nt cs i), by omega, by go_num, by go_simp, by go_simp, by go_simp, by go_simp, fun o => by have := KF.out o; go_simp, by first | (simp; omega) | (simp [World.setCell]; omega), by have := B5.out; go_grown⟩
                  case measure => simp [intOf]; omega
            · obtain rfl : i = cs.length := by omega
              have hzi := HBL.out.size
              have HS5 := Lib.hid (HS3.out.step HBL.out hpX)
              go_wp2_with fail
              refine (one_any p 20 _ _ HS5.out (by omega)).mono ?_; rintro e w5 ⟨t, rfl, hS6, hD6⟩
              have HS6 := Lib.hid hS6
              have hz6 := hD6.size
              have hne : w3.heap.size ≠ p := by omega
              have k0 := (hD6.cell hXl hne 0).trans c0
              have k1 := (hD6.cell hXl hne 1).trans c1
              have k2 := (hD6.cell hXl hne 2).trans c2
              have k3 := (hD6.cell hXl hne 3).trans c3
              have j3 := (hD6.frozen hXl hne 3).trans f3
              have HB6 := Lib.hid ((HB3.out.below HBL.out).grown hD6 (by omega))
              have HC6 := Lib.hid ((HC3.out.step HBL.out hgX).drew hD6 (by omega) hgp)
              have HD6 := Lib.hid ((HD3.out.step (HBL.out.mono (by omega))).trans hD6)
              clear hS6 hD6 c0 c1 c2 c3 f3
              cases t with
              | true =>
                have HB7 := Lib.hid (HB6.out.setX (X := w3.heap.size) (o := 3) (.bool (!u)) (fun g' n' c' e => by simp only [Value.slice.injEq, Option.some.injEq, Addr.mk.injEq, and_true] at e; omega))
                go_wp2_with (at_builtin; refine wpList_appBatch1 _ rfl (.tmp 54) (.tmp 56) rfl wo.heap.size _ _ HB7.out rfl ⟨b.Clay, b.Mould, b.Chamber, !u⟩ _ rfl (by simp [World.setCell]) (by omega) (by simp [World.setCell]; omega) ?_; intro v7 w7 hB7 hk7 hs7)
                have H7 : Below wo.heap.size w5 w7 := hk7 (Nat.le_refl _) (by go_grown)
                go_roundw
                case rel => exact ⟨xs ++ [⟨b.Clay, b.Mould, b.Chamber, !u⟩], j - 1, rfl, by omega, by omega, hB7, snoc_all HXS.out (small_set HSM.out _), by simp; omega, (HS6.out.step H7 (by omega)).to (by omega), HD6.out.step (H7.mono hz), HC6.out.step H7 hgl, by have := H7.size; omega⟩
                case measure => simp [intOf]; omega
              | false =>
                go_wp2_with (at_builtin; refine wpList_appBatch1 _ rfl (.tmp 54) (.tmp 56) rfl wo.heap.size _ _ HB6.out rfl ⟨b.Clay, b.Mould, b.Chamber, u⟩ _ rfl rfl (by omega) (by omega) ?_; intro v7 w7 hB7 hk7 hs7)
                have H7 : Below wo.heap.size w5 w7 := hk7 (Nat.le_refl _) (Below.refl _ _)
                go_roundw
                case rel => exact ⟨xs ++ [⟨b.Clay, b.Mould, b.Chamber, u⟩], j - 1, rfl, by omega, by omega, hB7, snoc_all HXS.out (small_set HSM.out _), by simp; omega, (HS6.out.step H7 (by omega)).to (by omega), HD6.out.step (H7.mono hz), HC6.out.step H7 hgl, by have := H7.size; omega⟩
                case measure => simp [intOf]; omega
        · obtain rfl : j = 0 := by omega
          go_wp2_with fail
          go_ret
          exact BatchD.own HB.out (by omega) HXS.out HD.out
end Go.Proofs.YtmapjepdcbpalaaGreatDoor
