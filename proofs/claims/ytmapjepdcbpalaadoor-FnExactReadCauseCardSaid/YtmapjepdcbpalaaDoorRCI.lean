/- The contract of the program's ReadCause. -/
import Derived.Test.YtmapjepdcbpalaaDoorRC0
import Derived.Test.YtmapjepdcbpalaaDoorN4
namespace Go.Proofs.YtmapjepdcbpalaaDoor
open Go.RowKit
set_option linter.unusedVariables false

/-- A variable of the library's holds some number. -/
def MaxL (w : World) : Prop := ∃ m, w.cell? ⟨1, 0, none⟩ = some (.int .i64 m)
theorem MaxL.below {w w' : World} (h : MaxL w) (hb : Below w.heap.size w w') : MaxL w' := by
  obtain ⟨m, hm⟩ := h
  exact ⟨m, (hb.cell (p := ⟨1, 0, none⟩) (World.block_lt_of_cell? w _ hm)).trans hm⟩
theorem cut_any (s sep : ByteArray) (w : World) (hs : s.size ≤ 1048576) (hm : MaxL w) :
    Calls Tryd.prog 18 #[.string s, .string sep] w fun e w' => e = .returned (.tuple #[.string ⟨(Lib.cut s.data.toList sep.data.toList).1.toArray⟩, .string ⟨(Lib.cut s.data.toList sep.data.toList).2.1.toArray⟩, .bool (Lib.cut s.data.toList sep.data.toList).2.2]) ∧ Below w.heap.size w w' := by
  obtain ⟨m, hm⟩ := hm
  exact (Any.strings_Cut { Tryd.laysM145 with } s sep m w (by omega) hm).mono fun e w' ⟨he, n, hw⟩ => ⟨he, by subst hw; exact below_drewN (Below.refl _ _) n⟩
/-- What lies ahead of the call. -/
structure Env (w : World) : Prop where
  tab : Tab w
  errs : Errs w
  names : CNames w
  maxl : MaxL w
theorem Env.below {w w' : World} (h : Env w) (hb : Below w.heap.size w w') : Env w' := ⟨h.tab.below hb, h.errs.below hb, h.names.below hb, h.maxl.below hb⟩
def zsN : List ByteArray := [⟨#[]⟩, wordS 1, wordS 2, wordS 3]
theorem index_any (x : ByteArray) (w : World) (hN : CNames w) :
    Calls Tryd.prog 20 #[.slice (some ⟨0, 0, none⟩) 4 4, .string x] w fun e w' => e = .returned (.int .i64 (Lib.idxOfS zsN x)) ∧ w = w' :=
  (Tryd.slices_Index_string 0 0 4 4 zsN x w (by decide) (by decide) (fun j hj => by
    have h4 : j = 0 ∨ j = 1 ∨ j = 2 ∨ j = 3 := by have : j < 4 := hj; omega
    rcases h4 with rfl | rfl | rfl | rfl
    · exact hN.c0
    · exact hN.c1
    · exact hN.c2
    · exact hN.c3)).mono fun e w' ⟨he, hw⟩ => ⟨he, hw.symm⟩
theorem data_mk (l : List UInt8) : (ByteArray.mk l.toArray).data.toList = l := by simp

set_option maxHeartbeats 4000000 in
theorem implReadCause_any (s : ByteArray) (w : World) (hs : s.size ≤ 1048576) (hE : Env w) :
    Calls Tryd.prog 9 #[.string s] w fun e w' => e = .returned (readV s.data.toList) ∧ Below w.heap.size w w' := by
  have HE := Lib.hid hE; clear hE
  obtain ⟨P, hP⟩ : ∃ P : ByteArray, ⟨(Lib.cut s.data.toList [32]).1.toArray⟩ = P := ⟨_, rfl⟩
  obtain ⟨Q, hQ⟩ : ∃ Q : ByteArray, ⟨(Lib.cut s.data.toList [32]).2.1.toArray⟩ = Q := ⟨_, rfl⟩
  have HQ := Lib.hid (show Q.data.toList = (Lib.cut s.data.toList [32]).2.1 by rw [← hQ, data_mk])
  have HP := Lib.hid hP
  have hQs : Q.size ≤ 1048576 := by
    rw [Lib.size_eq, HQ.out]
    have : (Lib.cut s.data.toList [32]).2.1.length ≤ s.data.toList.length := by
      rw [Lib.cut]; split
      · simp
      · simp
    rw [← Lib.size_eq] at this; omega
  have hcut := fun W hW => cut_any s ⟨#[32]⟩ W hs hW
  rw [show (ByteArray.mk #[32]).data.toList = [32] from rfl, hP, hQ] at hcut
  obtain ⟨o, hno⟩ : ∃ o, numO (Lib.cut s.data.toList [32]).2.1 = o := ⟨_, rfl⟩
  have HNO := Lib.hid hno
  have hrd := fun W hT hE => readDecimal_any Q W hQs hT hE
  rw [show NumC Q.data.toList = NumC Q.data.toList from rfl] at hrd
  have HRD := Lib.hid hrd
  clear hP hQ hno hrd
  obtain ⟨ix, hix⟩ : ∃ ix, Lib.idxOfS zsN P = ix := ⟨_, rfl⟩
  have hindex := fun W hN => index_any P W hN
  rw [hix] at hindex
  have HIX := Lib.hid hix
  clear hix
  go_enter Tryd.func9, Tryd.ntmps9
  go_wp2_with fail
  refine (hcut _ (HE.out.maxl.below (by first | (go_grown; done) | (go_split_ands; assumption)))).mono ?_; rintro e w1 ⟨rfl, hb1⟩
  have B1 : Below w.heap.size w w1 := bel_tr (by first | (go_grown; done) | (go_split_ands; assumption)) hb1
  obtain ⟨hc1, hf1⟩ := bcell hb1
  have hz1 := hb1.size; simp only [World.size_alloc] at hz1
  have a0 : w1.cell? ⟨w.heap.size, 0, none⟩ = some (.int .i64 0) := (hc1 _ 0 (by simp)).trans (by go_simp)
  have a1 : w1.cell? ⟨w.heap.size, 1, none⟩ = some (.int .i64 0) := (hc1 _ 1 (by simp)).trans (by go_simp)
  have f0 : w1.frozen? ⟨w.heap.size, 0, none⟩ = false := (hf1 _ 0 (by simp)).trans (by go_simp)
  have f1 : w1.frozen? ⟨w.heap.size, 1, none⟩ = false := (hf1 _ 1 (by simp)).trans (by go_simp)
  clear hc1 hf1 hb1
  go_wp2_with fail
  refine (HRD.out _ (HE.out.tab.below B1) (HE.out.errs.below B1)).mono ?_; rintro e w2 ⟨he, hb2⟩
  rw [HQ.out, HNO.out] at he
  have B2 : Below w.heap.size w w2 := bel_tr B1 hb2
  obtain ⟨hc2, hf2⟩ := bcell hb2
  have hz2 := hb2.size
  have b0 := (hc2 _ 0 (by omega)).trans a0
  have b1 := (hc2 _ 1 (by omega)).trans a1
  have g0 := (hf2 _ 0 (by omega)).trans f0
  have g1 := (hf2 _ 1 (by omega)).trans f1
  have hl2 : w.heap.size < w2.heap.size := by omega
  clear hc2 hf2 hb2 a0 a1 f0 f1 hcut
  cases o with
  | none =>
    subst he
    have R := Lib.hid (readV_none (impl_none HNO.out))
    go_wp2_with fail
    refine (hindex _ (HE.out.names.below B2)).mono ?_; rintro e w3 ⟨rfl, rfl⟩
    go_wp2_with fail
    have hsz : ((w2.setCell ⟨w.heap.size, 0, none⟩ (.int .i64 0)).setCell ⟨w.heap.size, 1, none⟩ (.int .i64 0)).heap.size = w2.heap.size := by simp [World.setCell]
    have q0 := alloc_atS (w := (w2.setCell ⟨w.heap.size, 0, none⟩ (.int .i64 0)).setCell ⟨w.heap.size, 1, none⟩ (.int .i64 0)) (b := w.heap.size) (o := 0) (v := .int .i64 0) (by go_simp) (by rw [hsz]; exact hl2) (.cells #[.int .i64 ix, .int .i64 0] 25)
    have q1 := alloc_atS (w := (w2.setCell ⟨w.heap.size, 0, none⟩ (.int .i64 0)).setCell ⟨w.heap.size, 1, none⟩ (.int .i64 0)) (b := w.heap.size) (o := 1) (v := .int .i64 0) (by go_simp) (by rw [hsz]; exact hl2) (.cells #[.int .i64 ix, .int .i64 0] 25)
    refine bodyPost_ret (v := .tuple #[.agg #[.int .i64 0, .int .i64 0], .bool false]) (by simp [results, Tryd.results9, go_sem, q0, q1]) rfl ⟨by rw [R.out], ?_⟩
    go_grown
  | some n =>
    subst he
    have hct := fun W hT hN => implCauseText_any ⟨ix, n⟩ W hT hN
    by_cases hi : (causeS ⟨ix, n⟩).data.toList = s.data.toList
    · have R := Lib.hid (readV_some (impl_yes HNO.out hi))
      have E := Lib.hid (show causeS ⟨ix, n⟩ = s from Go.WideShapes.bytes_inj hi)
      clear hi
      go_wp2_with fail
      refine (hindex _ (HE.out.names.below B2)).mono ?_; rintro e w3 ⟨rfl, rfl⟩
      go_wp2_with fail
      refine (hct _ (HE.out.tab.below (bel_tr B2 (by first | (go_grown; done) | (go_split_ands; assumption)))) (HE.out.names.below (bel_tr B2 (by first | (go_grown; done) | (go_split_ands; assumption))))).mono ?_; rw [E.out]; rintro e w4 ⟨rfl, hb4⟩
      obtain ⟨hc4, hf4⟩ := bcell hb4
      have hz4 := hb4.size; simp only [World.size_alloc] at hz4
      have k0 : w4.cell? ⟨w.heap.size, 0, none⟩ = some (.int .i64 0) := (hc4 _ 0 (by simp; omega)).trans (by go_simp)
      have k1 : w4.cell? ⟨w.heap.size, 1, none⟩ = some (.int .i64 0) := (hc4 _ 1 (by simp; omega)).trans (by go_simp)
      have l0 : w4.frozen? ⟨w.heap.size, 0, none⟩ = false := (hf4 _ 0 (by simp; omega)).trans (by go_simp)
      have l1 : w4.frozen? ⟨w.heap.size, 1, none⟩ = false := (hf4 _ 1 (by simp; omega)).trans (by go_simp)
      have m0 : w4.cell? ⟨w2.heap.size, 0, none⟩ = some (.int .i64 ix) := (hc4 _ 0 (by simp)).trans (by go_simp)
      have m1 : w4.cell? ⟨w2.heap.size, 1, none⟩ = some (.int .i64 n) := (hc4 _ 1 (by simp)).trans (by go_simp)
      have T4 : Below w.heap.size w w4 := bel_tr (bel_tr B2 (by first | (go_grown; done) | (go_split_ands; assumption))) hb4
      have hne : w.heap.size ≠ w2.heap.size := by omega
      clear hc4 hf4 b0 b1 g0 g1
      go_wp2_with fail
      refine bodyPost_ret (v := .tuple #[.agg #[.int .i64 ix, .int .i64 n], .bool true]) (by simp [results, Tryd.results9, go_sem, k0, k1]) rfl ⟨by rw [R.out], ?_⟩
      go_grown
    · have R := Lib.hid (readV_none (impl_no HNO.out (by show (causeS ⟨Lib.idxOfS zsN ⟨(Lib.cut s.data.toList [32]).1.toArray⟩, n⟩).data.toList ≠ _; rw [HP.out, HIX.out]; exact hi)))
      obtain ⟨D9, hD9⟩ : ∃ D9, causeS ⟨ix, n⟩ = D9 := ⟨_, rfl⟩
      have E : ¬ D9 = s := fun h => hi (by rw [hD9, h])
      rw [hD9] at hct
      have hq : (D9.toList == s.toList) = false := str_ne E
      clear hi hD9 E
      go_wp2_with fail
      refine (hindex _ (HE.out.names.below B2)).mono ?_; rintro e w3 ⟨rfl, rfl⟩
      go_wp2_with fail
      refine (hct _ (HE.out.tab.below (bel_tr B2 (by first | (go_grown; done) | (go_split_ands; assumption)))) (HE.out.names.below (bel_tr B2 (by first | (go_grown; done) | (go_split_ands; assumption))))).mono ?_; rintro e w4 ⟨rfl, hb4⟩
      obtain ⟨hc4, hf4⟩ := bcell hb4
      have hz4 := hb4.size; simp only [World.size_alloc] at hz4
      have k0 : w4.cell? ⟨w.heap.size, 0, none⟩ = some (.int .i64 0) := (hc4 _ 0 (by simp; omega)).trans (by go_simp)
      have k1 : w4.cell? ⟨w.heap.size, 1, none⟩ = some (.int .i64 0) := (hc4 _ 1 (by simp; omega)).trans (by go_simp)
      have l0 : w4.frozen? ⟨w.heap.size, 0, none⟩ = false := (hf4 _ 0 (by simp; omega)).trans (by go_simp)
      have l1 : w4.frozen? ⟨w.heap.size, 1, none⟩ = false := (hf4 _ 1 (by simp; omega)).trans (by go_simp)
      have T4 : Below w.heap.size w w4 := bel_tr (bel_tr B2 (by first | (go_grown; done) | (go_split_ands; assumption))) hb4
      clear hc4 hf4 b0 b1 g0 g1
      go_wp2_with fail
      refine bodyPost_ret (v := .tuple #[.agg #[.int .i64 0, .int .i64 0], .bool false]) (by simp [results, Tryd.results9, go_sem, k0, k1]) rfl ⟨by rw [R.out], ?_⟩
      go_grown
end Go.Proofs.YtmapjepdcbpalaaDoor
