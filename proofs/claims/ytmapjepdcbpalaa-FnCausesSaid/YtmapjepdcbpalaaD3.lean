/- The contracts of A2Batches and A2Causes: drawn batches and drawn causes. -/
import Derived.Test.YtmapjepdcbpalaaD2
namespace Go.Proofs.Ytmapjepdcbpalaa
open Go.RowKit
set_option linter.unusedVariables false

/-- Drawn batches that a call has made. -/
def BatchM (w : World) (e : Ending) (w' : World) : Prop := ∃ A n c xs, e = .returned (.slice A n c) ∧ BatchS w' A n xs ∧ n ≤ 11 ∧ (∀ b ∈ xs, smallB b = true) ∧ Below w.heap.size w w'
theorem a2Batches_any (A : Option Addr) (n c : Nat) (w : World) (h : Bys w A n) :
    Calls Try.prog 19 #[.slice A n c] w (BatchM w) := by
  have HB := Lib.hid h; clear h
  go_enter Try.func19, Try.ntmps19
  go_wp2_with fail
  refine (from_any A n c _ HB.out).mono ?_; rintro e w1 ⟨p, rfl, hp, hS, hb1⟩
  have HS := Lib.hid hS; clear hS
  go_wp2_with fail
  refine (l18Draw_any p 0 _ HS.out (by omega) (by omega)).mono ?_; rintro e w2 ⟨A2, n2, c2, xs, rfl, hX, hn, hsm, hD⟩
  have HX := Lib.hid hX; have HSM := Lib.hid hsm; clear hX hsm
  go_wp2_with fail
  go_ret
  exact ⟨A2, n2, c2, xs, rfl, HX.out, hn, HSM.out, hD.below hb1 hb1.size hp⟩

/-- Drawn causes that a call has made. -/
def CauseM (w : World) (e : Ending) (w' : World) : Prop := ∃ A n c cs, e = .returned (.slice A n c) ∧ CauseS w' A n cs ∧ n ≤ 3 ∧ (∀ c ∈ cs, causeB c = true) ∧ Below w.heap.size w w'
theorem CauseM.own {base : Nat} {w w' : World} {v : Value} {cs : List Cause} (h : OwnC w' base v cs) (hl : (cs.length : Int) ≤ 3) (hs : ∀ c ∈ cs, causeB c = true) (hD : Below w.heap.size w w') : CauseM w (.returned v) w' := by
  obtain ⟨g, cap, rfl, _, _, hR⟩ := h.row
  exact ⟨_, _, _, cs, rfl, hR.S rfl (by omega), by omega, hs, hD⟩
set_option maxHeartbeats 1000000 in
theorem a2Causes_any (A : Option Addr) (n c : Nat) (w : World) (h : Bys w A n) :
    Calls Try.prog 21 #[.slice A n c] w (CauseM w) := by
  have HB := Lib.hid h; clear h
  go_enter Try.func21, Try.ntmps21
  go_wp2_with fail
  refine (from_any A n c _ HB.out).mono ?_; rintro e w1 ⟨p, rfl, hp, hS, hb1⟩
  have HS := Lib.hid hS
  have hpl := hS.lt
  have hz1 := hb1.size
  clear hS
  go_wp2_with fail
  refine (pick_any p 4 0 _ (HS.out.below (by first | (go_grown; done) | (go_split_ands; assumption))) (by omega)).mono ?_; rintro e w2 ⟨y, rfl, ⟨hy0, hy1⟩, hS2, hD2⟩
  have hy2 : y < 4 := by omega
  have hal : Below w1.heap.size w1 (w1.alloc (.cells #[] 38)) := (Below.refl _ _).alloc (Nat.le_refl _) _
  have HO2 := Lib.hid ((OwnC.made' (base := w1.heap.size) (w := w1) (Nat.le_refl _) rfl).grown hD2 hpl)
  have HS2 := Lib.hid hS2
  have HB2 := Lib.hid (hD2.below (hb1.alloc (by omega) (.cells #[] 38)) (by simp; omega) hp)
  have hz2 := hD2.size; simp only [World.size_alloc] at hz2
  clear hS2 hy1 hD2 hal
  go_wp2_with fail
  go_loopw [4, 5] (fun v t wr => ∃ (cs : List Cause) (j : Int), t = .int .i64 j ∧ 0 ≤ j ∧ j ≤ 3 ∧ OwnC wr w1.heap.size v cs ∧ (∀ c ∈ cs, causeB c = true) ∧ (cs.length : Int) + j ≤ 3 ∧ Src wr p (60 - 10 * j) ∧ Below w.heap.size w wr ∧ w1.heap.size ≤ wr.heap.size) (fun _ t _ => (intOf t).toNat)
  case atStart => exact ⟨[], y, rfl, by omega, by omega, HO2.out, by simp, by simp; omega, HS2.out.to (by omega), HB2.out, by omega⟩
  case round =>
    obtain ⟨cs, j, rfl, hj0, hj2, hO, hcs, hlen, hS, hB, hzz⟩ := hrel
    have HO := Lib.hid hO
    obtain ⟨g, cap, hv, hg, hr⟩ := hO
    subst hv
    have HCS := Lib.hid hcs; have HS := Lib.hid hS; have HB := Lib.hid hB
    have hz := hB.size
    clear hcs hS hB hr HO2 HS2 HB2
    obtain ⟨wo, rfl⟩ : ∃ wo : World, wo = wr := ⟨_, rfl⟩
    by_cases hlt : 0 < j
    · go_wp2_with fail
      refine (new_any p _ _ HS.out (by omega)).mono ?_; rintro e w2 ⟨c, rfl, hc, hS2, hD2⟩
      have HO2 := Lib.hid (HO.out.grown hD2 hpl)
      have HC2 := Lib.hid (snoc_all HCS.out hc)
      have HS2 := Lib.hid hS2
      have hz2 := hD2.size
      have HB2 := Lib.hid (hD2.below HB.out hz hp)
      clear hS2 hD2 hc
      go_wp2_with (at_builtin; refine wpList_appC1 _ rfl (.tmp 15) (.tmp 18) rfl w1.heap.size _ _ HO2.out rfl _ _ _ rfl rfl (by omega) (by omega) ?_; intro v3 w3 hO3 hk3 hs3)
      have hB3 : Below w1.heap.size w2 w3 := hk3 (Nat.le_refl _) (Below.refl _ _)
      go_roundw
      case rel => exact ⟨cs ++ [c], j - 1, rfl, by omega, by omega, hO3, HC2.out, by simp; omega, (HS2.out.step hB3 hpl).to (by omega), HB2.out.trans (hB3.mono (by omega)), by have := hB3.size; omega⟩
      case measure => simp [intOf]; omega
    · obtain rfl : j = 0 := by omega
      have hlt0 : ¬ (0 : Int) < 0 := by omega
      go_wp2_with fail
      go_ret
      exact CauseM.own HO.out (by omega) HCS.out HB.out
end Go.Proofs.Ytmapjepdcbpalaa
