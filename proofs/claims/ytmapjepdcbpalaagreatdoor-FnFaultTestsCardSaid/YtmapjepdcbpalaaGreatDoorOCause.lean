/- Rows of records of type Cause that a call may write; slices.DeleteFunc over them, whatever the function value. -/
import Derived.Test.YtmapjepdcbpalaaGreatDoorB5
import Derived.Test.YtmapjepdcbpalaaGreatDoorKP2
namespace Go.Proofs.YtmapjepdcbpalaaGreatDoor
open Go.RowKit
set_option linter.unusedVariables false

/-- A row of n records, from the block's beginning on, that may be written. -/
structure RowFCause (w : World) (g n : Nat) (f : Nat → Cause) : Prop where
  lt : g < w.heap.size
  cell : ∀ j, j < n → (f j).lies w g (j * 2)
  frozen : ∀ o, w.frozen? ⟨g, o, none⟩ = false
theorem RowFCause.below {w w' : World} {g n : Nat} {f : Nat → Cause} (h : RowFCause w g n f) (hb : Below w.heap.size w w') : RowFCause w' g n f :=
  ⟨Nat.lt_of_lt_of_le h.lt hb.size, fun j hj => (h.cell j hj).keep fun o => hb.cell (p := ⟨g, o, none⟩) h.lt, fun o => (hb.frozen (p := ⟨g, o, none⟩) h.lt).trans (h.frozen o)⟩
theorem RowFCause.S {w : World} {g n : Nat} {l : List Cause} (h : RowFCause w g n (nt l)) (hl : l.length = n) (hn : n ≤ 1048576) : CauseS w (some ⟨g, 0, none⟩) n l :=
  ⟨hl, hn, fun _ => ⟨g, 0, rfl, h.lt, fun j hj => by rw [Nat.zero_add]; exact h.cell j hj⟩⟩
theorem RowFCause.congr {w : World} {g n m : Nat} {f f' : Nat → Cause} (h : RowFCause w g n f) (hm : m ≤ n) (e : ∀ j, j < m → f j = f' j) : RowFCause w g m f' :=
  ⟨h.lt, fun j hj => by rw [← e j hj]; exact h.cell j (by omega), h.frozen⟩
theorem RowFCause.stored {w : World} {g n k : Nat} {f : Nat → Cause} (h : RowFCause w g n f) (hk : k < n) (r : Cause) : RowFCause ((w.setCell ⟨g, k * 2, none⟩ (.int .i64 r.Kind)).setCell ⟨g, k * 2 + 1, none⟩ (.int .i64 r.Number)) g n (fun j => if j = k then r else f j) :=
  ⟨by have := h.lt; simpa [World.setCell] using this, fun j hj => by
    by_cases e : j = k
    · subst e
      obtain ⟨h0, h1⟩ := h.cell j hj
      simp only [if_pos]
      refine ⟨?_, ?_⟩
      · rw [World.cell?_setCell_other _ _ _ _ (fun hh => by simp only [Addr.mk.injEq, true_and, and_true] at hh; omega)]; exact World.cell?_setCell_same _ _ _ h0
      · exact World.cell?_setCell_same _ _ _ ((World.cell?_setCell_other _ _ _ _ (fun hh => by simp only [Addr.mk.injEq, true_and, and_true] at hh; omega)).trans h1)
    · simp only [if_neg e]
      obtain ⟨h0, h1⟩ := h.cell j hj
      refine ⟨?_, ?_⟩
      · rw [World.cell?_setCell_other _ _ _ _ (fun hh => by simp only [Addr.mk.injEq, true_and, and_true] at hh; omega)]; rw [World.cell?_setCell_other _ _ _ _ (fun hh => by simp only [Addr.mk.injEq, true_and, and_true] at hh; omega)]; exact h0
      · rw [World.cell?_setCell_other _ _ _ _ (fun hh => by simp only [Addr.mk.injEq, true_and, and_true] at hh; omega)]; rw [World.cell?_setCell_other _ _ _ _ (fun hh => by simp only [Addr.mk.injEq, true_and, and_true] at hh; omega)]; exact h1
  , fun o => by simp only [World.frozen?_setCell]; exact h.frozen o⟩
theorem grown_storedCause {a w : World} {g : Nat} (h : a.grownBy w (some g)) (k : Nat) (r : Cause) : a.grownBy ((w.setCell ⟨g, k * 2, none⟩ (.int .i64 r.Kind)).setCell ⟨g, k * 2 + 1, none⟩ (.int .i64 r.Number)) (some g) := grown_set (grown_set (h) _ _) _ _
/-- What is asked of a function value that is called while the row is written. -/
def PredGCause (fn : Nat) (pb lb : Array Value) (p : Cause → Bool) (xs : List Cause) (w : World) (g : Nat) : Prop :=
  ∀ (W : World) (x : Cause), x ∈ xs → w.grownBy W (some g) → Calls Tryz.prog fn (pb ++ #[Cause.enc x] ++ lb) W fun e w' => e = .returned (.bool (p x)) ∧ Below W.heap.size W w'
def StruckCause (p : Cause → Bool) (l : List Cause) (g cap : Nat) (w : World) (e : Ending) (w' : World) : Prop :=
  e = .returned (.slice (some ⟨g, 0, none⟩) (l.filter fun x => !p x).length cap) ∧ RowFCause w' g (l.filter fun x => !p x).length (nt (l.filter fun x => !p x)) ∧ w.grownBy w' (some g)
theorem StruckCause.mk {p : Cause → Bool} {l l' : List Cause} {g cap m : Nat} {w w' : World} (h : (l.filter fun x => !p x) = l') (hm : l'.length = m) (hr : RowFCause w' g m (nt l')) (hg : w.grownBy w' (some g)) : StruckCause p l g cap w (.returned (.slice (some ⟨g, 0, none⟩) m cap)) w' := by
  subst h; subst hm; exact ⟨rfl, hr, hg⟩
theorem bytesCause : ∀ i : Nat, ((Value.cells (.agg #[.int .i64 0, .int .i64 0]))[i % 2]!).oneCell' = true := by
  intro i
  have h : i % 2 < 2 := Nat.mod_lt _ (by omega)
  generalize i % 2 = r at h
  match r, h with
  | 0, _ => rfl
  | 1, _ => rfl
set_option maxHeartbeats 2000000 in
theorem delFCause_any (p : Cause → Bool) (fn : Nat) (pb lb : Array Value) (eg : ∀ args w, (callFunc fn args).run Tryz.prog w = .ok (.enter fn args) w) (g n cap : Nat) (l : List Cause) (w : World) (hl : l.length = n) (hn : n ≤ 1048576) (hcap : n ≤ cap) (hR : RowFCause w g n (nt l)) (hp : PredGCause fn pb lb p l w g) :
    Calls Tryz.prog 48 #[.slice (some ⟨g, 0, none⟩) n cap, .func (.func fn) pb lb] w (StruckCause p l g cap w) := by
  have L := Lib.hid hl
  have HR := Lib.hid hR
  have HP := Lib.hid hp
  have hpb : PredB fn pb lb Cause.enc p l w := fun W x hx hW => hp W x hx (bel_grown hW)
  have hidx := idxFCause_any p fn pb lb eg (some ⟨g, 0, none⟩) n cap l w (hR.S hl hn) hpb
  clear hl hR hp hpb
  go_enter Tryz.func48, Tryz.ntmps48
  go_wp2_with fail
  refine hidx.mono ?_; rintro e w1 ⟨r, rfl, hr, hb1⟩
  clear hidx
  rcases hr with ⟨rfl, hall⟩ | ⟨k0, hk0, rfl, hyes, hno⟩
  · have E := Lib.hid (show (l.filter fun x => !p x) = l by
      rw [List.filter_eq_self]
      intro x hx
      have := (List.any_eq_false.1 hall) x hx
      simpa using this)
    clear hall
    go_wp2_with fail
    go_ret
    exact StruckCause.mk E.out L.out (HR.out.below hb1) (bel_grown hb1)
  · have hk0n : k0 < n := by rw [← L.out]; exact hk0
    have hne : ((k0 : Int) == -1) = false := by rw [beq_eq_false_iff_ne]; omega
    obtain ⟨kp, hkp⟩ : ∃ kp : Nat → Bool, kp = fun j => !p (nt l j) := ⟨_, rfl⟩
    have K := Lib.hid hkp
    have hst := KInv.start (kp := kp) hk0 (fun j hj => by
      rw [hkp]
      have h1 : nt l j ∈ l.take k0 := by
        rw [nt_lt (by omega), ← List.getElem_take (j := k0) (h := by rw [List.length_take]; omega)]
        exact List.getElem_mem _
      have := (List.any_eq_false.1 hno) _ h1
      simpa using this) (by rw [hkp]; show (!p (nt l k0)) = false; rw [hyes]; rfl)
    have HS := Lib.hid hst
    clear hst hkp hno hyes
    go_wp2_with fail
    go_loopw [6, 5] (fun u v wr => ∃ (j i : Nat) (f : Nat → Cause), u = .int .i64 j ∧ v = .int .i64 i ∧ j ≤ n ∧ Hid (KInv kp l j i f) ∧ Hid (RowFCause wr g n f) ∧ w.grownBy wr (some g)) (fun u _ _ => n - (intOf u).toNat)
    case atStart => exact ⟨k0 + 1, k0, nt l, by go_num, rfl, by omega, HS, Lib.hid (HR.out.below hb1), bel_grown hb1⟩
    case round =>
      obtain ⟨j, i, f, rfl, rfl, hj, HI, HF, hg⟩ := hrel
      have hij := HI.out.lt
      have hgl := HF.out.lt
      by_cases hlt : j < n
      · have hfj := HI.out.high j (by omega)
        obtain ⟨hq0, hq1⟩ := HF.out.cell j hlt
        rw [hfj] at hq0 hq1
        have HFJ := Lib.hid hfj; clear hfj
        have hmem : nt l j ∈ l := nt_mem (by rw [L.out]; exact hlt)
        rcases Bool.eq_false_or_eq_true (p (nt l j)) with x | x
        · have X := Lib.hid x; clear x
          have Y := Lib.hid (HI.out.no (show kp j = false by rw [K.out]; show (!p (nt l j)) = false; rw [X.out]; rfl))
          go_wp2_with (go_at_fn fn; refine (asB (HP.out _ (nt l j) hmem (grown_bel hg (by go_grown))) X.out).mono ?_; rintro e w5 ⟨rfl, hb5⟩)
          have T5 : Below wr.heap.size wr w5 := bel_tr (by go_grown) hb5
          go_roundw
          case rel => exact ⟨j + 1, i, f, by go_num, rfl, by omega, Y, Lib.hid (HF.out.below T5), grown_bel hg T5⟩
          case measure => simp [intOf]; omega
        · have X := Lib.hid x; clear x
          have Y := Lib.hid (HI.out.yes (show kp j = true by rw [K.out]; show (!p (nt l j)) = true; rw [X.out]; rfl))
          have hin : i < n := by omega
          go_wp2_with (go_at_fn fn; refine (asB (HP.out _ (nt l j) hmem (grown_bel hg (by go_grown))) X.out).mono ?_; rintro e w5 ⟨rfl, hb5⟩; have T5 : Below wr.heap.size wr w5 := bel_tr (by go_grown) hb5; have HF5 := Lib.hid (HF.out.below T5); obtain ⟨hu0, hu1⟩ := HF5.out.cell i hin; have hz0 := HF5.out.frozen (i * 2); have hz1 := HF5.out.frozen (i * 2 + 1); obtain ⟨hc5, hf5⟩ := bcell hb5)
          go_roundw
          case rel => exact ⟨j + 1, i + 1, _, by go_num, by go_num, by omega, Y, Lib.hid (HF5.out.stored hin (nt l j)), grown_storedCause (grown_bel hg T5) i (nt l j)⟩
          case measure => simp [intOf]; omega
      · obtain rfl : n = j := by omega
        have hicap : i < cap := by omega
        have hile : i ≤ n := by omega
        obtain ⟨w6, hrun, hg6, hs6, hlow, hfr⟩ := run_clear_k (P := Tryz.prog) wr 26 33 _ 2 Tryz.underlying26 Tryz.zeroValue33 rfl bytesCause g (i * 2) (n - i) (cap - i) (fun t ht => by
          obtain ⟨hu0, hu1⟩ := HF.out.cell (i + t / 2) (by omega)
          have hr : t % 2 < 2 := Nat.mod_lt _ (by omega)
          have e : i * 2 + t = (i + t / 2) * 2 + t % 2 := by omega
          rw [e]
          generalize t % 2 = r at hr ⊢
          match r, hr with
          | 0, _ => simp only [Nat.add_zero]; rw [hu0]; rfl
          | 1, _ => rw [hu1]; rfl) HF.out.frozen
        have E := Lib.hid (show (l.filter fun x => !p x) = keptL kp l n by rw [K.out, keptL_filter (q := fun x => !p x) (by rw [L.out]; exact Nat.le_refl _), List.take_of_length_le (by rw [L.out]; exact Nat.le_refl _)])
        have R6 := Lib.hid (show RowFCause w6 g i (nt (keptL kp l n)) from ⟨by rw [hs6]; exact hgl, fun t ht => by
          rw [← HI.out.low t ht]
          obtain ⟨hu0, hu1⟩ := HF.out.cell t (by omega)
          exact ⟨(hlow _ (by omega)).trans hu0, (hlow _ (by omega)).trans hu1⟩, hfr⟩)
        clear hlow hfr
        go_wp2
        go_ret
        exact StruckCause.mk E.out HI.out.len R6.out (grown_tr hg hg6)
end Go.Proofs.YtmapjepdcbpalaaGreatDoor
