/- The contracts of StretchStage, the reference's and the program's. -/
import Derived.Test.YtnccooeaeomjfaaK10
import Derived.Test.YtnccooeaeomjfaaKL
import Derived.Test.YtnccooeaeomjfaaCp
import Derived.Deep.DeepCutAuto
namespace Go.Proofs.Ytnccooeaeomjfaa
open Go.RowKit
set_option linter.unusedVariables false

/-- One number of a list is raised by one. -/
def bumpL (xs : List Int) (j : Nat) : List Int := xs.set j (nth xs j + 1)
theorem bumpL_len (xs : List Int) (j : Nat) : (bumpL xs j).length = xs.length := by simp [bumpL]
theorem bumpL_nth {xs : List Int} {j k : Nat} (hj : j < xs.length) : nth (bumpL xs j) k = if k = j then nth xs j + 1 else nth xs k := by
  rw [bumpL, nth, nth, nth, List.getD_eq_getElem?_getD, List.getD_eq_getElem?_getD, List.getElem?_set]
  by_cases e : k = j
  · subst e; simp [hj]
  · have e' : ¬ j = k := fun h => e h.symm
    simp [e, e']
def stretchC (ch : Int) (xs : List Int) (t : Int) : Int :=
  if okB ch xs = true then (if inB t 1 5 = true then (if okB ch (bumpL xs (t - 1).toNat) = true then 0 else 5) else 2) else 1
def stretchL (ch : Int) (xs : List Int) (t : Int) : List Int := if stretchC ch xs t = 0 then bumpL xs (t - 1).toNat else []
def stretchN (ch : Int) (xs : List Int) (t : Int) : Int := if stretchC ch xs t = 0 then ch else 0
theorem stretch_bad {ch : Int} {xs : List Int} {t c : Int} (h : stretchC ch xs t = c) (hc : c ≠ 0) : stretchL ch xs t = [] ∧ stretchN ch xs t = 0 ∧ stretchC ch xs t = c := by rw [stretchL, stretchN, h]; simp [hc]
theorem stretch_good {ch : Int} {xs : List Int} {t : Int} (h : stretchC ch xs t = 0) : stretchL ch xs t = bumpL xs (t - 1).toNat ∧ stretchN ch xs t = ch ∧ stretchC ch xs t = 0 := by rw [stretchL, stretchN, h]; simp

/-- A kiln that a call has made, and a code. -/
def KilnC (ch : Int) (l : List Int) (code : Int) (w : World) (e : Ending) (w' : World) : Prop :=
  ∃ A n c, e = .returned (.tuple #[.agg #[.int .i64 ch, .slice A n c], .int .i64 code]) ∧ Ints w' A n l ∧ Fz w' A ∧ Fresh w w' A ∧ Below w.heap.size w w'
theorem KilnC.none_ {code : Int} {w w' : World} (hb : Below w.heap.size w w') : KilnC 0 [] code w (.returned (.tuple #[.agg #[.int .i64 0, .slice none 0 0], .int .i64 code])) w' :=
  ⟨none, 0, 0, rfl, Ints.nil _, Fz.none_ _, Fresh.none_ _ _, hb⟩

def CopyC (n : Nat) (xs : List Int) (w : World) (e : Ending) (w' : World) : Prop :=
  ∃ q cap, e = .returned (.slice (some ⟨q, 0, none⟩) n cap) ∧ w.heap.size ≤ q ∧ q < w'.heap.size ∧ CellsAt w' q 0 n (fun t => .int .i64 (nth xs t)) ∧ (∀ o, w'.frozen? ⟨q, o, none⟩ = false) ∧ Below w.heap.size w w'

theorem Ints.of_cells {w : World} {q n : Nat} {xs : List Int} (hl : xs.length = n) (hn : n ≤ 1048576) (hq : q < w.heap.size) (h : CellsAt w q 0 n (fun t => .int .i64 (nth xs t))) : Ints w (some ⟨q, 0, none⟩) n xs :=
  ⟨hl, hn, fun _ => ⟨q, 0, rfl, hq, fun j hj => h j hj⟩⟩
theorem cells_bump {w : World} {q n j : Nat} {xs : List Int} (hl : xs.length = n) (hj : j < n) (h : CellsAt w q 0 n (fun t => .int .i64 (nth xs t))) :
    CellsAt (w.setCell ⟨q, j, none⟩ (.int .i64 (nth xs j + 1))) q 0 n (fun t => .int .i64 (nth (bumpL xs j) t)) := fun t ht => by
  have h1 := h.set (s := j) (o := j) hj (Nat.zero_add _).symm (.int .i64 (nth xs j + 1)) t ht
  refine h1.trans (congrArg some ?_)
  show (if t = j then Value.int .i64 (nth xs j + 1) else .int .i64 (nth xs t)) = .int .i64 (nth (bumpL xs j) t)
  rw [bumpL_nth (by omega)]
  split <;> rfl

theorem cloneInt_any (A : Option Addr) (n c : Nat) (xs : List Int) (w : World) (hA : Ints w A n xs) (h0 : 0 < n) :
    Calls Try.prog 59 #[.slice A n c] w (CopyC n xs w) := by
  have hn := hA.bound
  obtain ⟨b, off, rfl, hb, hc⟩ := hA.cell h0
  have HO := Lib.hid (World.ownsRow_made (base := w.heap.size) (e := 2) (size := 1) w #[] 0 (Nat.le_refl _) (by simp [maxLen]) (by simp))
  have HC2 := Lib.hid (show CellsAt (w.alloc (.cells #[] 2)) b off (n * 1) (fun t => .int .i64 (nth xs t)) from fun t ht => (((Below.refl w.heap.size w).alloc (Nat.le_refl _) _).cell (p := ⟨b, off + t, none⟩) hb).trans (hc t (by omega)))
  have he : ∀ W : World, (binOp .eql 22 (.slice (some ⟨b, off, none⟩) n c) (.slice none 0 0)).run Try.prog W = .ok (.bool false) W := fun _ => rfl
  clear hc
  go_enter Try.func59, Try.ntmps59
  go_wp2_with (at_builtin; refine wpList_appAll _ rfl (.tmp 5) (.tmp 6) 22 rfl w.heap.size 2 _ 1 8 Try.underlying22 info_i64 rfl (by omega) _ HO.out rfl b off n c _ rfl HC2.out (fun t => rfl) h0 hn (by omega) (by simp) (fun k hk => by simp [Value.ownBlock] at hk; omega) ?_; intro q cap w2 hq1 hq2 hq3 hq4 hq5 hq6)
  have h5 := hq5 (Nat.le_refl w.heap.size) (show Below w.heap.size w (w.alloc (.cells #[] 2)) from (Below.refl _ _).alloc (Nat.le_refl _) _)
  go_ret
  exact ⟨q, cap, rfl, hq1, hq2, by simpa using hq3, hq4, h5⟩

theorem l00Own_any (A : Option Addr) (n c : Nat) (xs : List Int) (w : World) (hA : Ints w A n xs) (h0 : 0 < n) :
    Calls Try.prog 58 #[.slice A n c] w (CopyC n xs w) := by
  have hn := hA.bound
  obtain ⟨b, off, rfl, hb, hc⟩ := hA.cell h0
  have HO := Lib.hid (World.ownsRow_made (base := w.heap.size) (e := 2) (size := 1) w #[] 0 (Nat.le_refl _) (by simp [maxLen]) (by simp))
  have HC2 := Lib.hid (show CellsAt (w.alloc (.cells #[] 2)) b off (n * 1) (fun t => .int .i64 (nth xs t)) from fun t ht => (((Below.refl w.heap.size w).alloc (Nat.le_refl _) _).cell (p := ⟨b, off + t, none⟩) hb).trans (hc t (by omega)))
  clear hc
  go_enter Try.func58, Try.ntmps58
  go_wp2_with (at_builtin; refine wpList_appAll _ rfl (.tmp 3) (.tmp 4) 22 rfl w.heap.size 2 _ 1 8 Try.underlying22 info_i64 rfl (by omega) _ HO.out rfl b off n c _ rfl HC2.out (fun t => rfl) h0 hn (by omega) (by simp) (fun k hk => by simp [Value.ownBlock] at hk; omega) ?_; intro q cap w2 hq1 hq2 hq3 hq4 hq5 hq6)
  have h5 := hq5 (Nat.le_refl w.heap.size) (show Below w.heap.size w (w.alloc (.cells #[] 2)) from (Below.refl _ _).alloc (Nat.le_refl _) _)
  go_ret
  exact ⟨q, cap, rfl, hq1, hq2, by simpa using hq3, hq4, h5⟩

theorem box_kept {W v : World} {a b : Value} {t : TypeId} {k : Nat} (hb : Below (W.alloc (.cells #[a, b] t)).heap.size (W.alloc (.cells #[a, b] t)) v) (hk : W.heap.size = k) :
    v.cell? ⟨k, 0, none⟩ = some a ∧ v.cell? ⟨k, 1, none⟩ = some b ∧ v.frozen? ⟨k, 0, none⟩ = false ∧ v.frozen? ⟨k, 1, none⟩ = false := by
  subst hk
  have hl : W.heap.size < (W.alloc (.cells #[a, b] t)).heap.size := by simp
  exact ⟨(hb.cell (p := ⟨W.heap.size, 0, none⟩) hl).trans (by go_simp), (hb.cell (p := ⟨W.heap.size, 1, none⟩) hl).trans (by go_simp), (hb.frozen (p := ⟨W.heap.size, 0, none⟩) hl).trans (by go_simp), (hb.frozen (p := ⟨W.heap.size, 1, none⟩) hl).trans (by go_simp)⟩
/-- The kiln that is laid for the answer: block o holds it, block q its lengths. -/
def OutK (B : Nat) (ch : Int) (n : Nat) (xs : List Int) (o q cap : Nat) (a wx : World) : Prop :=
  B ≤ o ∧ o < wx.heap.size ∧ B ≤ q ∧ q < wx.heap.size ∧ q ≠ o ∧ wx.cell? ⟨o, 0, none⟩ = some (.int .i64 ch) ∧ wx.cell? ⟨o, 1, none⟩ = some (.slice (some ⟨q, 0, none⟩) n cap) ∧
  CellsAt wx q 0 n (fun t => .int .i64 (nth xs t)) ∧ (∀ i, wx.frozen? ⟨q, i, none⟩ = false) ∧ Below B a wx

theorem OutK.call_first {B n q cap : Nat} {ch : Int} {xs : List Int} {a v1 : World} {t : TypeId} (hb : Below B a v1) (hq1 : B ≤ q) (hq2 : q < v1.heap.size)
    (hc : CellsAt v1 q 0 n (fun t => .int .i64 (nth xs t))) (hf : ∀ i, v1.frozen? ⟨q, i, none⟩ = false) :
    OutK B ch n xs v1.heap.size q cap a (v1.alloc (.cells #[.int .i64 ch, .slice (some ⟨q, 0, none⟩) n cap] t)) := by
  have A : Below v1.heap.size v1 (v1.alloc (.cells #[.int .i64 ch, .slice (some ⟨q, 0, none⟩) n cap] t)) := (Below.refl _ _).alloc (Nat.le_refl _) _
  refine ⟨by omega, by simp, hq1, by simp; omega, by omega, by go_simp, by go_simp, fun t ht => ?_, fun i => ?_, hb.alloc (by omega) _⟩
  · exact (A.cell (p := ⟨q, 0 + t, none⟩) hq2).trans (hc t ht)
  · exact (A.frozen (p := ⟨q, i, none⟩) hq2).trans (hf i)
theorem OutK.alloc_first {B n o q cap : Nat} {ch : Int} {xs : List Int} {a v1 : World} {u u' : Value} (hb : Below B a v1) (ho : B ≤ o) (c0 : v1.cell? ⟨o, 0, none⟩ = some u) (c1 : v1.cell? ⟨o, 1, none⟩ = some u')
    (hq1 : o < q) (hq2 : q < v1.heap.size) (hc : CellsAt v1 q 0 n (fun t => .int .i64 (nth xs t))) (hf : ∀ i, v1.frozen? ⟨q, i, none⟩ = false) :
    OutK B ch n xs o q cap a ((v1.setCell ⟨o, 0, none⟩ (.int .i64 ch)).setCell ⟨o, 1, none⟩ (.slice (some ⟨q, 0, none⟩) n cap)) := by
  have hne : q ≠ o := by omega
  refine ⟨ho, by simp [World.setCell]; omega, by omega, by simpa [World.setCell] using hq2, hne, ?_, ?_, fun t ht => ?_, fun i => ?_, (hb.setCell ho _).setCell ho _⟩
  · rw [World.cell?_setCell_other _ _ _ _ (by simp), World.cell?_setCell_same _ _ _ c0]
  · rw [World.cell?_setCell_same _ _ _ (by rw [World.cell?_setCell_other _ _ _ _ (by simp)]; exact c1)]
  · rw [World.cell?_setCell_other _ _ _ _ (fun h => hne (congrArg Addr.block h).symm), World.cell?_setCell_other _ _ _ _ (fun h => hne (congrArg Addr.block h).symm)]; exact hc t ht
  · rw [World.frozen?_setCell, World.frozen?_setCell]; exact hf i

set_option maxHeartbeats 2000000 in
theorem specStretchStage_any (ch : Int) (A : Option Addr) (n cp : Nat) (xs : List Int) (t : Int) (w : World) (hA : Ints w A n xs) :
    Calls Try.prog 26 #[.agg #[.int .i64 ch, .slice A n cp], .int .i64 t] w (KilnC (stretchN ch xs t) (stretchL ch xs t) (stretchC ch xs t) w) := by
  have hK : KAt ((w.alloc (.cells #[.int .i64 ch, .slice A n cp] 27)).alloc (.cells #[.int .i64 0, .slice none 0 0] 27)) w.heap.size ch A n cp xs := ⟨by simp; omega, by go_simp, by go_simp, (hA.alloc _).alloc _⟩
  rcases Bool.eq_false_or_eq_true (okB ch xs) with g1 | g1
  · obtain ⟨p6, p7, p8, _⟩ := okB_parts g1
    obtain rfl : n = 5 := by rw [← hA.len]; exact lensOk_len p8
    rcases Bool.eq_false_or_eq_true (inB t 1 5) with g2 | g2
    · obtain ⟨t1, t5⟩ := inB_true.1 g2
      obtain ⟨j, rfl⟩ : ∃ j : Nat, t = (j : Int) + 1 := ⟨(t - 1).toNat, by omega⟩
      have hj : j < 5 := by omega
      have hj' : ((j : Int) + 1 - 1).toNat = j := by omega
      have hbn := lensOk_nth p8 hj
      obtain ⟨x, g3⟩ : ∃ x, okB ch (bumpL xs j) = x := ⟨_, rfl⟩
      have E0 : stretchC ch xs ((j : Int) + 1) = if x = true then 0 else 5 := by rw [stretchC, if_pos g1, if_pos g2, hj', g3]
      have G1 := Lib.hid g1; have G2 := Lib.hid g2; have G3 := Lib.hid g3
      clear g1 g2 g3 hj' t1 t5
      have E : Hid (if x = true then stretchL ch xs ((j : Int) + 1) = bumpL xs j ∧ stretchN ch xs ((j : Int) + 1) = ch ∧ stretchC ch xs ((j : Int) + 1) = 0 else stretchL ch xs ((j : Int) + 1) = [] ∧ stretchN ch xs ((j : Int) + 1) = 0 ∧ stretchC ch xs ((j : Int) + 1) = 5) := by
        show ite _ _ _
        cases x
        · rw [if_neg (by simp)]; exact stretch_bad (by rw [E0]; rfl) (by omega)
        · rw [if_pos rfl]
          have := stretch_good (ch := ch) (xs := xs) (t := (j : Int) + 1) (by rw [E0]; rfl)
          rwa [show ((j : Int) + 1 - 1).toNat = j by omega] at this
      clear E0
      go_enter Try.func26, Try.ntmps26
      go_upto_region 5 with (first | (go_at_call 45; refine (asB (l17Ok_any _ hK) G1.out).mono ?_; rintro e w' ⟨rfl, q, rfl⟩) | (go_at_call 53; refine (asB (in_any _ _ _ _) G2.out).mono ?_; rintro e w' ⟨rfl, rfl⟩))
      go_cut [6] (fun sa wx => ∃ o q cap, sa = .pointer (some ⟨o, 0, none⟩) ∧ OutK (w.heap.size + 2) ch 5 xs o q cap ((w.alloc (.cells #[.int .i64 ch, .slice A 5 cp] 27)).alloc (.cells #[.int .i64 0, .slice none 0 0] 27)) wx)
      case first =>
        have HKS := Lib.hid (show ∀ q : Nat, (((w.alloc (.cells #[.int .i64 ch, .slice A 5 cp] 27)).alloc (.cells #[.int .i64 0, .slice none 0 0] 27)).drewN q).heap.size = w.heap.size + 1 + 1 from fun q => by simp)
        first | go_region_with ((go_at_call 58; refine (l00Own_any _ _ _ xs _ (hK.ints.below (by first | exact below_drewN (Below.refl _ _) _ | exact (below_drewN (Below.refl _ _) _).alloc (by simp) _)) (by omega)).mono ?_; rintro e v1 ⟨q, cap, rfl, hq1, hq2, hq3, hq4, hbv1⟩; have HQ3 := Lib.hid hq3; clear hq3; have HQ4 := Lib.hid hq4; clear hq4; obtain ⟨hcv1, hfv1⟩ := bcell hbv1; have k0 : v1.cell? ⟨w.heap.size, 0, none⟩ = some (.int .i64 ch) := (by rw [hcv1 _ _ (by first | (simp; done) | (simp; omega))]; go_simp); have hzv1 := hbv1.size; (try simp only [World.size_drewN, World.size_alloc] at hzv1); (try simp only [World.size_drewN, World.size_alloc] at hq1); have hlv0 : w.heap.size < v1.heap.size := (by have hh := hbv1.size; simp at hh; omega); have hlvq : q < v1.heap.size := (by exact hq2))) | fail
        all_goals
          go_wp2_with fail
          go_meet
          first
            | exact ⟨_, q, cap, rfl, OutK.call_first ((bel_tr (below_drewN (Below.refl _ _) _) hbv1).mono (by simp)) (by simp at hq1; omega) hq2 HQ3.out HQ4.out⟩
            | (obtain ⟨c0, c1, _, _⟩ := box_kept hbv1 (HKS.out _)
               exact ⟨_, q, cap, rfl, OutK.alloc_first ((bel_tr ((below_drewN (Below.refl _ _) _).alloc (by simp) _) hbv1).mono (by simp)) (by omega) c0 c1 (by simp at hq1; omega) hq2 HQ3.out HQ4.out⟩)
      obtain ⟨o, q, cap, rfl, ho1, ho2, hq1, hq2, hne, k0, k1, hcs, hfs, hB⟩ := hcut
      obtain ⟨w2, rfl⟩ : ∃ u : World, u = wc := ⟨_, rfl⟩
      have hk : w2.cell? ⟨q, j, none⟩ = some (.int .i64 (nth xs j)) := by have := hcs j hj; rwa [Nat.zero_add] at this
      have hf := hfs j
      have CS := Lib.hid hcs; have FS := Lib.hid hfs
      have HB2 := Lib.hid hB
      have e0 : w2.cell? ⟨w.heap.size + 1, 0, none⟩ = some (.int .i64 0) := (hB.cell (p := ⟨w.heap.size + 1, 0, none⟩) (by show w.heap.size + 1 < w.heap.size + 2; omega)).trans (by go_simp)
      have e1 : w2.cell? ⟨w.heap.size + 1, 1, none⟩ = some (.slice none 0 0) := (hB.cell (p := ⟨w.heap.size + 1, 1, none⟩) (by show w.heap.size + 1 < w.heap.size + 2; omega)).trans (by go_simp)
      have g0 : w2.frozen? ⟨w.heap.size + 1, 0, none⟩ = false := (hB.frozen (p := ⟨w.heap.size + 1, 0, none⟩) (by show w.heap.size + 1 < w.heap.size + 2; omega)).trans (by go_simp)
      have g1 : w2.frozen? ⟨w.heap.size + 1, 1, none⟩ = false := (hB.frozen (p := ⟨w.heap.size + 1, 1, none⟩) (by show w.heap.size + 1 < w.heap.size + 2; omega)).trans (by go_simp)
      have hj0 : (j : Int) + 1 - 1 = j := by omega
      have L5 : xs.length = 5 := hA.len
      clear hcs hfs hB
      have hK3 : KAt (w2.setCell ⟨q, j, none⟩ (.int .i64 (nth xs j + 1))) o ch (some ⟨q, 0, none⟩) 5 cap (bumpL xs j) := by
        refine ⟨by simpa [World.setCell] using ho2, ?_, ?_, Ints.of_cells (by rw [bumpL_len]; exact L5) (by omega) (by simpa [World.setCell] using hq2) (cells_bump L5 hj CS.out)⟩
        · rw [World.cell?_setCell_other _ _ _ _ (by first | (simp; done) | (simp; omega))]; exact k0
        · rw [World.cell?_setCell_other _ _ _ _ (by first | (simp; done) | (simp; omega))]; exact k1
      have HK3 := Lib.hid hK3; clear hK3
      have HB3 : Below w.heap.size w (w2.setCell ⟨q, j, none⟩ (.int .i64 (nth xs j + 1))) :=
        (Below.trans (((Below.refl w.heap.size w).alloc (Nat.le_refl _) _).alloc (by simp) _) (HB2.out.mono (by omega))).setCell (by show w.heap.size ≤ q; omega) _
      have hqn : q ≠ w.heap.size + 1 := by omega
      cases x
      · have EE := E.out; rw [if_neg (by decide)] at EE
        go_wp2_with (go_at_call 45; refine (asB (l17Ok_any _ HK3.out) G3.out).mono ?_; rintro e w' ⟨rfl, q', rfl⟩)
        refine bodyPost_ret (v := .tuple #[.agg #[.int .i64 0, .slice none 0 0], .int .i64 5]) (by simp [results, Try.results26, go_sem, e0, e1]) rfl ?_
        rw [EE.1, EE.2.1, EE.2.2]
        exact KilnC.none_ (((below_drewN HB3 _).setCell (by simp) _).setCell (by simp) _)
      · have EE := E.out; rw [if_pos rfl] at EE
        go_wp2_with (go_at_call 45; refine (asB (l17Ok_any _ HK3.out) G3.out).mono ?_; rintro e w' ⟨rfl, q', rfl⟩)
        refine bodyPost_ret (v := .tuple #[.agg #[.int .i64 ch, .slice (some ⟨q, 0, none⟩) 5 cap], .int .i64 0]) (by simp [results, Try.results26, go_sem, e0, e1]) rfl ?_
        rw [EE.1, EE.2.1, EE.2.2]
        exact ⟨_, _, _, rfl, ((HK3.out.ints.drewN _).far hqn _).far hqn _, Fz.mk_ (fun i => by rw [World.frozen?_setCell, World.frozen?_setCell, World.frozen?_drewN, World.frozen?_setCell]; exact FS.out i),
          fun a e => by
            simp only [Option.some.injEq] at e
            subst e
            exact ⟨by show w.heap.size ≤ q; omega, by show q < _; simpa [World.setCell] using hq2⟩, ((below_drewN HB3 _).setCell (by simp) _).setCell (by simp) _⟩
    · have E := Lib.hid (stretch_bad (ch := ch) (xs := xs) (t := t) (c := 2) (by rw [stretchC, if_pos g1, if_neg (by simp [g2])]) (by omega))
      have G1 := Lib.hid g1; have G2 := Lib.hid g2
      clear g1 g2
      go_enter Try.func26, Try.ntmps26
      go_wp2_with (first | (go_at_call 45; refine (asB (l17Ok_any _ hK) G1.out).mono ?_; rintro e w' ⟨rfl, q, rfl⟩) | (go_at_call 53; refine (asB (in_any _ _ _ _) G2.out).mono ?_; rintro e w' ⟨rfl, rfl⟩))
      refine bodyPost_ret (v := .tuple #[.agg #[.int .i64 0, .slice none 0 0], .int .i64 2]) (by simp [results, Try.results26, go_sem]) rfl ?_
      rw [E.out.1, E.out.2.1, E.out.2.2]
      exact KilnC.none_ (((below_drewN (((Below.refl w.heap.size w).alloc (Nat.le_refl _) _).alloc (by simp) _) _).setCell (by simp) _).setCell (by simp) _)
  · have E := Lib.hid (stretch_bad (ch := ch) (xs := xs) (t := t) (c := 1) (by rw [stretchC, if_neg (by simp [g1])]) (by omega))
    have G1 := Lib.hid g1
    clear g1
    go_enter Try.func26, Try.ntmps26
    go_wp2_with (go_at_call 45; refine (asB (l17Ok_any _ hK) G1.out).mono ?_; rintro e w' ⟨rfl, q, rfl⟩)
    refine bodyPost_ret (v := .tuple #[.agg #[.int .i64 0, .slice none 0 0], .int .i64 1]) (by simp [results, Try.results26, go_sem]) rfl ?_
    rw [E.out.1, E.out.2.1, E.out.2.2]
    exact KilnC.none_ (((below_drewN (((Below.refl w.heap.size w).alloc (Nat.le_refl _) _).alloc (by simp) _) _).setCell (by simp) _).setCell (by simp) _)
end Go.Proofs.Ytnccooeaeomjfaa
