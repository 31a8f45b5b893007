/- The contracts of the draw of a text of rules: one of some texts, a text that is changed. -/
import Derived.Test.YtoghgbbepjpelaaGreatDoorHD5
namespace Go.Proofs.YtoghgbbepjpelaaGreatDoor
open Go.RowKit
set_option linter.unusedVariables false

/-- A drawn text. -/
def TextR (p k : Nat) (m : Int) (w : World) (e : Ending) (w' : World) : Prop := ∃ s : ByteArray, e = .returned (.string s) ∧ s.size ≤ k ∧ Src w' p m ∧ Drew p w w'
theorem text_any (p b n c : Nat) (m : Int) (w : World) (h : Src w p m) (hm : m ≤ 900000) (hn1 : 1 ≤ n) (hn : n ≤ 100) (hb : b < w.heap.size) (hne : b ≠ p) (hc : ∀ j, j < n → ∃ v : ByteArray, w.cell? ⟨b, j, none⟩ = some (.string v) ∧ v.size ≤ 1) :
    Calls Tryz.prog 63 #[.pointer (some ⟨p, 0, none⟩), .slice (some ⟨b, 0, none⟩) n c] w (TextR p 1 (m + 2) w) := by
  have HC := Lib.hid hc; clear hc
  go_enter Tryz.func63, Tryz.ntmps63
  go_wp2_with fail
  refine (pick_any p n m _ h (by omega)).mono ?_; rintro e w1 ⟨x, rfl, ⟨hx0, hx1⟩, hS1, hD1⟩
  obtain ⟨k, rfl⟩ := Int.eq_ofNat_of_zero_le hx0
  have hk : k < n := by omega
  obtain ⟨v, hv, hvs⟩ := HC.out k hk
  have hv1 : w1.cell? ⟨b, k, none⟩ = some (.string v) := (hD1.cell hb hne k).trans hv
  have HS1 := Lib.hid hS1
  clear hS1 hx1 hv
  go_wp2_with fail
  go_ret
  exact ⟨v, rfl, hvs, HS1.out, hD1⟩
theorem lit7 (W : World) (t : TypeId) : ∀ j, j < 7 → ∃ v : ByteArray, (W.alloc (.cells #[.string ⟨#[32]⟩, .string ⟨#[48]⟩, .string ⟨#[45]⟩, .string ⟨#[120]⟩, .string ⟨#[49]⟩, .string ⟨#[57]⟩, .string ⟨#[46]⟩] t)).cell? ⟨W.heap.size, j, none⟩ = some (.string v) ∧ v.size ≤ 1 := by
  intro j hj
  have h : j = 0 ∨ j = 1 ∨ j = 2 ∨ j = 3 ∨ j = 4 ∨ j = 5 ∨ j = 6 := by omega
  rcases h with rfl | rfl | rfl | rfl | rfl | rfl | rfl
  · exact ⟨⟨#[32]⟩, by go_simp, by decide⟩
  · exact ⟨⟨#[48]⟩, by go_simp, by decide⟩
  · exact ⟨⟨#[45]⟩, by go_simp, by decide⟩
  · exact ⟨⟨#[120]⟩, by go_simp, by decide⟩
  · exact ⟨⟨#[49]⟩, by go_simp, by decide⟩
  · exact ⟨⟨#[57]⟩, by go_simp, by decide⟩
  · exact ⟨⟨#[46]⟩, by go_simp, by decide⟩
theorem extract_size (s : ByteArray) (a b : Nat) (hb : b ≤ s.size) : (s.extract a b).size = b - a := by
  rw [ByteArray.size_extract]; omega
set_option maxRecDepth 20000 in
set_option maxHeartbeats 8000000 in
theorem l01Spoil_any (p : Nat) (m : Int) (t : ByteArray) (w : World) (h : Src w p m) (hm : m ≤ 10000) (ht : t.size ≤ 10000) :
    Calls Tryz.prog 44 #[.pointer (some ⟨p, 0, none⟩), .string t] w (TextR p (t.size + 1) (m + 8) w) := by
  have hp := h.lt
  go_enter Tryz.func44, Tryz.ntmps44
  go_wp2_with fail
  refine (pick_any p 5 m _ h (by omega)).mono ?_; rintro e w1 ⟨x, rfl, ⟨hx0, hx1⟩, hS1, hD1⟩
  have HS1 := Lib.hid hS1; have HD1 := Lib.hid hD1
  have hz1 := hD1.size
  have hcase : x = 0 ∨ x = 1 ∨ (x ≠ 0 ∧ x ≠ 1) := by omega
  clear hS1 hD1 h hx1
  rcases hcase with rfl | rfl | ⟨x0, x1⟩
  · go_wp2_with fail
    refine (pick_any p _ _ _ HS1.out (by omega)).mono ?_; rintro e w2 ⟨y, rfl, ⟨hy0, hy1⟩, hS2, hD2⟩
    obtain ⟨k, rfl⟩ := Int.eq_ofNat_of_zero_le hy0
    have hk : k ≤ t.size := by omega
    have hkz : (k : Int) ≤ (t.size : Int) := by omega
    have HS2 := Lib.hid hS2; have HD2 := Lib.hid (HD1.out.trans hD2)
    have hz2 := hD2.size
    have e1 := extract_size t 0 k hk
    have e2 := extract_size t k t.size (Nat.le_refl _)
    have K1 : ∀ v : ByteArray, v.size ≤ 1 → ∀ W : World, (Op.stringOp .add (t.extract 0 k) v).run Tryz.prog W = .ok (.string (t.extract 0 k ++ v)) W := fun v hv => hcat_any (by omega) (by omega)
    have K2 : ∀ v : ByteArray, v.size ≤ 1 → ∀ W : World, (Op.stringOp .add (t.extract 0 k ++ v) (t.extract k t.size)).run Tryz.prog W = .ok (.string ((t.extract 0 k ++ v) ++ t.extract k t.size)) W := fun v hv => hcat_any (by rw [ByteArray.size_append]; omega) (by omega)
    have HK1 := Lib.hid K1; have HK2 := Lib.hid K2
    have HE := Lib.hid (And.intro e1 e2)
    clear hS2 hD2 hy1 K1 K2 e1 e2
    go_wp2_with fail
    go_region_with ((go_at_call 63; refine (text_any p w2.heap.size 7 7 (m + 2 + 2) _ (HS2.out.below (by first | exact (Below.refl _ _).alloc (Nat.le_refl _) _ | exact bel_drew ((Below.refl _ _).alloc (Nat.le_refl _) _) | exact (bel_drew (Below.refl _ _)).alloc (Nat.le_refl _) _ | exact bel_drew ((bel_drew (Below.refl _ _)).alloc (Nat.le_refl _) _))) (by omega) (by omega) (by omega) (by first | (simp; done) | exact Nat.lt_succ_self _) (by omega) (by first | exact lit7 w2 _ | exact lit7 w2.drew _)).mono ?_; rintro e w3 ⟨v, rfl, hv, hS3, hD3⟩; have K1 := HK1.out v hv; have K2 := HK2.out v hv; have HS3 := Lib.hid hS3; have HD3 := Lib.hid (HD2.out.trans ((Drew.of_below (show Below w2.heap.size w2 _ from (by first | exact (Below.refl _ _).alloc (Nat.le_refl _) _ | exact bel_drew ((Below.refl _ _).alloc (Nat.le_refl _) _) | exact (bel_drew (Below.refl _ _)).alloc (Nat.le_refl _) _ | exact bel_drew ((bel_drew (Below.refl _ _)).alloc (Nat.le_refl _) _)))).trans hD3)); clear hS3 hD3))
    all_goals
      go_wp2_with fail
      go_ret
      refine ⟨_, rfl, ?_, (HS3.out.mono (by omega)).below (by first | (go_grown; done) | (go_split_ands; assumption)), HD3.out.step (by first | (go_grown; done) | (go_split_ands; assumption))⟩
      have := HE.out.1; have := HE.out.2
      rw [ByteArray.size_append, ByteArray.size_append]; omega
  · have hne : t = ⟨#[]⟩ ∨ t.size ≠ 0 := by
      rcases Nat.eq_zero_or_pos t.size with hz | hz
      · refine .inl (Go.WideShapes.bytes_inj ?_)
        have := Lib.size_eq t
        exact List.length_eq_zero_iff.1 (by omega)
      · exact .inr (by omega)
    rcases hne with rfl | hne
    · go_wp2_with fail
      go_ret
      exact ⟨_, rfl, by simp, HS1.out.mono (by omega), HD1.out⟩
    · have g2 : ¬ t.toList = [] := fun h => hne (by rw [Lib.size_eq, ← Lib.toList_data, h]; rfl)
      have g3 : (!t.toList.isEmpty) = true := by simpa using g2
      go_wp2_with fail
      refine (pick_any p _ _ _ HS1.out (by omega)).mono ?_; rintro e w2 ⟨y, rfl, ⟨hy0, hy1⟩, hS2, hD2⟩
      obtain ⟨k, rfl⟩ := Int.eq_ofNat_of_zero_le hy0
      have hk : k < t.size := by omega
      have hkz : (k : Int) ≤ (t.size : Int) := by omega
      have hkz1 : (k : Int) + 1 ≤ (t.size : Int) := by omega
      have hk1 : IntKind.i64.wrap ((k : Int) + 1) = (k : Int) + 1 := IntWalk.i64_in _ (by omega)
      have hk2 : ((k : Int) + 1).toNat = k + 1 := by omega
      have hk3 : (0 : Int) ≤ (k : Int) + 1 := by omega
      have HS2 := Lib.hid hS2; have HD2 := Lib.hid (HD1.out.trans hD2)
      have e1 := extract_size t 0 k (by omega)
      have e2 := extract_size t (k + 1) t.size (Nat.le_refl _)
      have K1 := hcat_any (P := Tryz.prog) (x := t.extract 0 k) (y := t.extract (k + 1) t.size) (by omega) (by omega)
      have HE := Lib.hid (And.intro e1 e2)
      clear hS2 hD2 hy1 e1 e2
      go_wp2_with fail
      go_quiet (fail)
      go_wp2_with fail
      go_ret
      refine ⟨_, rfl, ?_, (HS2.out.mono (by omega)).below (by first | exact below_drewN (Below.refl _ _) _ | exact Below.refl _ _), HD2.out.step (by first | exact below_drewN (Below.refl _ _) _ | exact Below.refl _ _)⟩
      have := HE.out.1; have := HE.out.2
      rw [ByteArray.size_append]; omega
  · have e0 : (x == 0) = false := by simpa using x0
    have e1 : (x == 1) = false := by simpa using x1
    go_wp2_with fail
    go_ret
    exact ⟨t, rfl, by omega, HS1.out.mono (by omega), HD1.out⟩
def SomeText (k : Nat) (w : World) (e : Ending) (w' : World) : Prop := ∃ s : ByteArray, e = .returned (.string s) ∧ s.size ≤ k ∧ Below w.heap.size w w'
theorem drawReadHeatRules_any (A : Option Addr) (n c : Nat) (w : World) (h : Bys w A n) :
    Calls Tryz.prog 16 #[.slice A n c] w (SomeText 1000 w) := by
  have HB := Lib.hid h; clear h
  go_enter Tryz.func16, Tryz.ntmps16
  go_wp2_with fail
  refine (from_any A n c _ HB.out).mono ?_; rintro e w1 ⟨p, rfl, hp, hS, hb1⟩
  have hpl := hS.lt
  have HS := Lib.hid hS; clear hS
  go_wp2_with fail
  refine (l16Draw_any p 0 _ HS.out (by omega) (by omega)).mono ?_; rintro e w2 ⟨v, l, rfl, hO2, hl0, hl1, hdr, hS2, hD2⟩
  obtain ⟨g, cap, rfl, hg, hgc, hRow⟩ := hO2.row
  have HX := Lib.hid (hRow.S rfl (by omega))
  have HW := Lib.hid (fun k (hk : k < l.length) => (show wideR (nt l k) from by
    obtain ⟨⟨a0, a1⟩, ⟨b0, b1⟩, c0, c1⟩ := hdr _ (nt_mem hk)
    exact ⟨⟨a0, by omega⟩, ⟨b0, by omega⟩, c0, by omega⟩))
  have HS2 := Lib.hid hS2; have HD2 := Lib.hid (hD2.below hb1 hb1.size hp)
  have hz2 := Nat.le_trans hb1.size hD2.size
  have hts := rulesT_len HW.out l.length (Nat.le_refl _)
  rw [List.take_of_length_le (Nat.le_refl _)] at hts
  obtain ⟨T, hT⟩ : ∃ T, (⟨(rulesT l).toArray⟩ : ByteArray) = T := ⟨_, rfl⟩
  have hTs : T.size ≤ 300 := by rw [← hT, Lib.size_eq]; show (rulesT l).toArray.toList.length ≤ 300; rw [List.toList_toArray]; omega
  have hcon := fun W hW => l16Text_any (some ⟨g, 0, none⟩) l.length cap l W hW (by omega) HW.out
  rw [hT] at hcon
  have HCON := Lib.hid hcon
  clear hS2 hD2 hO2 hRow hts hT hcon hdr
  go_wp2_with fail
  refine (HCON.out _ HX.out).mono ?_; rintro e w3 ⟨rfl, hb3⟩
  have HS3 := Lib.hid (HS2.out.below hb3)
  have HD3 := Lib.hid (HD2.out.trans (hb3.mono hz2))
  have hz3 := Nat.le_trans hz2 hb3.size
  clear hb3
  go_wp2_with fail
  refine (one_any p 3 _ _ HS3.out (by omega)).mono ?_; rintro e w4 ⟨t, rfl, hS4, hD4⟩
  have HS4 := Lib.hid hS4
  have HD4 := Lib.hid (hD4.below HD3.out hz3 hp)
  have hz4 := Nat.le_trans hz3 hD4.size
  clear hS4 hD4
  cases t with
  | true =>
    go_wp2_with fail
    refine (l01Spoil_any p _ T _ HS4.out (by omega) (by omega)).mono ?_; rintro e w5 ⟨s, rfl, hs, hS5, hD5⟩
    have HD5 := Lib.hid (hD5.below HD4.out hz4 hp)
    clear hS5 hD5
    go_wp2_with fail
    go_ret
    exact ⟨s, rfl, by omega, HD5.out⟩
  | false =>
    go_wp2_with fail
    go_ret
    exact ⟨T, rfl, by omega, HD4.out⟩
end Go.Proofs.YtoghgbbepjpelaaGreatDoor
