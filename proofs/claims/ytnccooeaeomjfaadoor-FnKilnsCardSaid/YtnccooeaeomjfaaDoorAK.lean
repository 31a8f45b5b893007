/- The contract of A2Kiln, a drawn kiln that is valid. -/
import Derived.Test.YtnccooeaeomjfaaDoorK6
import Derived.Test.YtnccooeaeomjfaaDoorSr
import Derived.Test.YtnccooeaeomjfaaDoorLs
import Derived.Test.YtnccooeaeomjfaaDoorApN
namespace Go.Proofs.YtnccooeaeomjfaaDoor
open Go.RowKit
set_option linter.unusedVariables false

theorem l00MaxK_any (a b : Int) (w : World) :
    Calls Tryd.prog 22 #[.int .i64 a, .int .i64 b] w fun e w' => e = .returned (.int .i64 (max a b)) ∧ w = w' := by
  go_enter Tryd.func22, Tryd.ntmps22
  go_wp2
  all_goals (go_ret; exact ⟨ret_int (by omega), rfl⟩)

theorem OwnN.setX {w : World} {base X o : Nat} {e : TypeId} {v : Value} {l : List Value} (h : OwnN w base e v l) (u : Value) (hX : X < base) : OwnN (w.setCell ⟨X, o, none⟩ u) base e v l :=
  h.kept (grown_set (World.grownBy.refl _ _) o u) hX
theorem OwnS.setX {w : World} {base X o : Nat} {e : TypeId} {v : Value} {l : List Value} (h : OwnS w base e v l) (u : Value) (hX : X < base) : OwnS (w.setCell ⟨X, o, none⟩ u) base e v l := by
  obtain ⟨g, cap, rfl, hg, ho⟩ := h
  exact ⟨g, cap, rfl, hg, ho.kept (row := some X) (grown_set (World.grownBy.refl _ _) o u) (.inr (by simp [Value.ownBlock]; omega))⟩
/-- A kiln in block K, whose lengths are drawn one after another. -/
def Grows (wr : World) (p K : Nat) (m : Int) (v : Value) (xs : List Int) : Prop :=
  (∀ x ∈ xs, 1 ≤ x ∧ x ≤ 4) ∧ OwnN wr (K + 1) 2 v (xs.map (.int .i64)) ∧ wr.cell? ⟨K, 0, none⟩ = some (.int .i64 0) ∧ wr.cell? ⟨K, 1, none⟩ = some v ∧ (∀ o, wr.frozen? ⟨K, o, none⟩ = false) ∧ K < wr.heap.size ∧ Src wr p m

theorem Grows.at {wr W w2 : World} {p K : Nat} {m m' : Int} {v : Value} {xs : List Int} (h : Grows wr p K m v xs) (hb : Below wr.heap.size wr W) (hD : Drew p W w2) (hS : Src w2 p m') (hp : p < K) : Grows w2 p K m' v xs := by
  obtain ⟨hx, hO, c0, c1, cf, hK, _⟩ := h
  have hK2 := Nat.lt_of_lt_of_le hK hb.size
  exact ⟨hx, (hO.below hb).kept hD (by omega), (hD.cell hK2 (by omega) 0).trans ((hb.cell (p := ⟨K, 0, none⟩) hK).trans c0), (hD.cell hK2 (by omega) 1).trans ((hb.cell (p := ⟨K, 1, none⟩) hK).trans c1),
    fun o => (hD.frozen hK2 (by omega) o).trans ((hb.frozen (p := ⟨K, o, none⟩) hK).trans (cf o)), Nat.lt_of_lt_of_le hK2 hD.size, hS⟩
theorem Grows.push {w2 w3 : World} {p K : Nat} {m : Int} {v v3 : Value} {xs : List Int} {y : Int} (h : Grows w2 p K m v xs) (hb : Below (K + 1) w2 w3) (hO : OwnS w3 (K + 1) 2 v3 (xs.map (Value.int .i64) ++ [.int .i64 (1 + y)])) (hp : p < K) (h0 : 0 ≤ y) (h1 : y < 4) :
    Grows (w3.setCell ⟨K, 1, none⟩ v3) p K m v3 (xs ++ [1 + y]) := by
  obtain ⟨hx, _, c0, c1, cf, hK, hS⟩ := h
  have hK3 := Nat.lt_of_lt_of_le hK hb.size
  have hs : Below K w3 (w3.setCell ⟨K, 1, none⟩ v3) := (Below.refl K w3).setCell (p := ⟨K, 1, none⟩) (Nat.le_refl K) v3
  refine ⟨fun x hx2 => ?_, .inr (by rw [List.map_append]; exact hO.setX _ (by omega)), ?_, ?_, fun o => ?_, by simpa [World.setCell] using hK3, (hS.step hb (by omega)).step hs hp⟩
  · rcases List.mem_append.1 hx2 with h2 | h2
    · exact hx x h2
    · rw [List.mem_singleton.1 h2]; omega
  · rw [World.cell?_setCell_other _ _ _ _ (by simp)]; exact (hb.cell (p := ⟨K, 0, none⟩) (by show K < K + 1; omega)).trans c0
  · exact World.cell?_setCell_same _ _ _ ((hb.cell (p := ⟨K, 1, none⟩) (by show K < K + 1; omega)).trans c1)
  · rw [World.frozen?_setCell]; exact (hb.frozen (p := ⟨K, o, none⟩) (by show K < K + 1; omega)).trans (cf o)

theorem Grows.to_ {wr : World} {p K : Nat} {m m' : Int} {v : Value} {xs : List Int} (h : Grows wr p K m v xs) (hm : m ≤ m') : Grows wr p K m' v xs :=
  ⟨h.1, h.2.1, h.2.2.1, h.2.2.2.1, h.2.2.2.2.1, h.2.2.2.2.2.1, h.2.2.2.2.2.2.mono hm⟩
theorem four_lens {xs : List Int} (hl : xs.length = 5) (hx : ∀ x ∈ xs, 1 ≤ x ∧ x ≤ 4) : lensOk xs = true ∧ 5 ≤ sumL xs ∧ sumL xs ≤ 20 := by
  match xs, hl with
  | [a, b, c, d, e], _ =>
    have ha := hx a (by simp); have hb := hx b (by simp); have hc := hx c (by simp); have hd := hx d (by simp); have he := hx e (by simp)
    have hL : lensOk [a, b, c, d, e] = true := by simp [lensOk, allIn, inB]; omega
    refine ⟨hL, ?_⟩
    rw [sumL_all hL]
    simp only [psum, List.take, List.sum_cons, List.sum_nil]
    omega
theorem drawn_ok {xs : List Int} {y : Int} (hl : xs.length = 5) (hx : ∀ x ∈ xs, 1 ≤ x ∧ x ≤ 4) (h0 : 0 ≤ y) (h5 : y < 5) : okB (min 24 (max 6 (sumL xs + y))) xs = true := by
  obtain ⟨hL, s0, s1⟩ := four_lens hl hx
  rw [okB, hL, inB_true.2 (show 6 ≤ min 24 (max 6 (sumL xs + y)) ∧ min 24 (max 6 (sumL xs + y)) ≤ 24 by omega), decide_eq_true (show sumL xs ≤ min 24 (max 6 (sumL xs + y)) by omega)]; rfl
theorem Grows.own {wr : World} {p K : Nat} {m : Int} {v : Value} {xs : List Int} (h : Grows wr p K m v xs) (hl : xs.length = 5) : ∃ g cap, v = .slice (some ⟨g, 0, none⟩) 5 cap ∧ K + 1 ≤ g ∧ 5 ≤ cap ∧ Ints wr (some ⟨g, 0, none⟩) 5 xs := by
  rcases h.2.1 with ⟨_, h2⟩ | h2
  · have h3 : xs.length = 0 := by simpa using congrArg List.length h2
    omega
  · obtain ⟨g, cap, rfl, hg, hc, hI⟩ := OwnS.ints (xs := xs) h2 (by omega)
    rw [hl] at hc hI
    exact ⟨g, cap, by rw [hl], hg, hc, hI⟩
theorem Ints.farK {w : World} {b n : Nat} {xs : List Int} (h : Ints w (some ⟨b, 0, none⟩) n xs) {p : Addr} (hp : b ≠ p.block) (u : Value) : Ints (w.setCell p u) (some ⟨b, 0, none⟩) n xs :=
  ⟨h.len, h.bound, fun hn => by
    obtain ⟨b', off, e, hb, hc⟩ := h.cell hn
    simp only [Option.some.injEq, Addr.mk.injEq, and_true] at e
    obtain ⟨rfl, rfl⟩ := e
    exact ⟨_, _, rfl, by simpa using hb, fun j hj => (World.cell?_setCell_other w p _ u (fun e => hp (by rw [e]))).trans (hc j hj)⟩⟩
/-- A drawn kiln. -/
def DrawnK (w : World) (e : Ending) (w' : World) : Prop := ∃ ch q cap xs, e = .returned (.agg #[.int .i64 ch, .slice (some ⟨q, 0, none⟩) 5 cap]) ∧ okB ch xs = true ∧ Ints w' (some ⟨q, 0, none⟩) 5 xs ∧ 5 ≤ cap ∧ Below w.heap.size w w'
set_option maxHeartbeats 4000000 in
theorem a2Kiln_any (A : Option Addr) (n c : Nat) (w : World) (h : Bys w A n) :
    Calls Tryd.prog 8 #[.slice A n c] w (DrawnK w) := by
  have HB := Lib.hid (show Bys (w.alloc (.cells #[.int .i64 0, .slice none 0 0] 28)) A n from ⟨h.1, fun hn => by
    obtain ⟨b, off, e, hl, hc⟩ := h.2 hn
    exact ⟨b, off, e, by simp; omega, fun j hj => by
      obtain ⟨v, h0, h1, h2⟩ := hc j hj
      exact ⟨v, h0, h1, alloc_at h2 hl _⟩⟩⟩)
  clear h
  go_enter Tryd.func8, Tryd.ntmps8
  go_wp2_with fail
  refine (from_any A n c _ HB.out).mono ?_; rintro e w1 ⟨p, rfl, hp, hS, hb1⟩
  have hpl := hS.lt
  have hz1 := hb1.size
  simp only [World.size_alloc] at hz1 hp
  have R0 : w1.cell? ⟨w.heap.size, 0, none⟩ = some (.int .i64 0) := (hb1.cell (p := ⟨w.heap.size, 0, none⟩) (by simp)).trans (by go_simp)
  have R1 : w1.cell? ⟨w.heap.size, 1, none⟩ = some (.slice none 0 0) := (hb1.cell (p := ⟨w.heap.size, 1, none⟩) (by simp)).trans (by go_simp)
  have RF : ∀ o, w1.frozen? ⟨w.heap.size, o, none⟩ = false := fun o => (hb1.frozen (p := ⟨w.heap.size, o, none⟩) (by simp)).trans (by go_simp)
  have B1 : Below w.heap.size w w1 := bel_tr ((Below.refl _ _).alloc (Nat.le_refl _) _) hb1
  have HS := Lib.hid hS
  have HRF := Lib.hid RF
  clear hS RF hb1
  go_wp2_with fail
  go_loopw [5] (fun i wr => ∃ (j : Nat) (v : Value) (xs : List Int), i = .int .i64 j ∧ j ≤ 5 ∧ xs.length = j ∧ Grows wr p w1.heap.size (2 * j) v xs ∧ Below (w.heap.size + 1) w1 wr) (fun i _ => 5 - (intOf i).toNat)
  case atStart =>
    have A1 : Below w1.heap.size w1 (w1.alloc (.cells #[.int .i64 0, .slice none 0 0] 28)) := (Below.refl _ _).alloc (Nat.le_refl _) _
    exact ⟨0, _, [], rfl, by omega, rfl, ⟨by simp, OwnN.nil _ _ _, by go_simp, by go_simp, fun o => by go_simp, by simp, HS.out.step A1 hpl⟩, A1.mono (by omega)⟩
  case round =>
    obtain ⟨j, v, xs, rfl, hj, hl, hG, hB⟩ := hrel
    have HG := Lib.hid hG
    obtain ⟨hx, hO, c0, c1, cf, hK, hS⟩ := hG
    have HB := Lib.hid hB
    have HS := Lib.hid hS; have HX := Lib.hid hx
    have hz := hB.size
    clear hx hO cf hS hB
    obtain ⟨wo, rfl⟩ : ∃ u : World, u = wr := ⟨_, rfl⟩
    by_cases hlt : (j : Int) < 5
    · have HL := Lib.hid (show (xs.map (Value.int .i64)).length ≤ 1048576 by rw [List.length_map]; omega)
      go_wp2_with fail
      go_region_law ((first
        | (refine step_appC _ (by rfl) (.tmp 14) (.tmp 18) 26 (by rfl) (w1.heap.size + 1) 2 (.int .i64 0) 8 Tryd.underlying26 info_i64 rfl v _ (HG2.out.2.1.below (by first | exact Below.refl _ _ | exact bel_drew (Below.refl _ _) | exact (bel_drew (Below.refl _ _)).alloc (by simp) _ | exact bel_drew ((Below.refl _ _).alloc (by simp) _) | exact (Below.refl _ _).alloc (by simp) _)) (by rfl) (.int .i64 (1 + y)) w2.heap.size (by rfl) (by go_simp) rfl HL.out (by omega) (by first | exact hK2 | (simp; omega)) ?_
           intro v3 w3 hO3 hB3 hs3
           have hB4 : Below (w1.heap.size + 1) w2 w3 := Below.trans (Below.mono (B := w2.heap.size) (by first | exact Below.refl _ _ | exact bel_drew (Below.refl _ _) | exact (bel_drew (Below.refl _ _)).alloc (by simp) _ | exact bel_drew ((Below.refl _ _).alloc (by simp) _) | exact (Below.refl _ _).alloc (by simp) _) (by omega)) hB3
           have f1 : w3.frozen? ⟨w1.heap.size, 1, none⟩ = false := (hB4.frozen (p := ⟨w1.heap.size, 1, none⟩) (Nat.lt_succ_self _)).trans df1
           have f1c : w3.cell? ⟨w1.heap.size, 1, none⟩ = some v := (hB4.cell (p := ⟨w1.heap.size, 1, none⟩) (Nat.lt_succ_self _)).trans d1
           have HO3 := Lib.hid hO3
           have HB4 := Lib.hid hB4
           obtain ⟨g3, c3, e3, _, _⟩ := hO3
           generalize (xs.map (Value.int .i64) ++ [Value.int .i64 (1 + y)]).length = n3 at e3
           subst e3
           clear hB3 hB4)
        | (go_simp
           go_at_call 20
           refine (pick_any p 4 (2 * j) _ (HS.out.below (by first | exact Below.refl _ _ | exact bel_drew (Below.refl _ _) | exact (bel_drew (Below.refl _ _)).alloc (by simp) _ | exact bel_drew ((Below.refl _ _).alloc (by simp) _) | exact (Below.refl _ _).alloc (by simp) _)) (by omega)).mono ?_
           rintro e w2 ⟨y, rfl, ⟨hy0, hy1⟩, hS2, hD2⟩
           have hG2 := HG.out.at (by first | exact Below.refl _ _ | exact bel_drew (Below.refl _ _) | exact (bel_drew (Below.refl _ _)).alloc (by simp) _ | exact bel_drew ((Below.refl _ _).alloc (by simp) _) | exact (Below.refl _ _).alloc (by simp) _) hD2 hS2 hpl
           have hy2 : y < 4 := (by omega)
           have hw1 : IntKind.i64.wrap (1 + y) = 1 + y := IntWalk.i64_in _ (by omega)
           have HG2 := Lib.hid hG2
           have d1 := hG2.2.2.2.1
           have df1 := hG2.2.2.2.2.1 1
           have hK2 := hG2.2.2.2.2.2.1
           have HB2 := Lib.hid (Drew.below HB.out ((Drew.of_below (by first | exact Below.refl _ _ | exact bel_drew (Below.refl _ _) | exact (bel_drew (Below.refl _ _)).alloc (by simp) _ | exact bel_drew ((Below.refl _ _).alloc (by simp) _) | exact (Below.refl _ _).alloc (by simp) _)).trans hD2) (by omega) (by omega))
           clear hS2 hD2 hy1 hG2)))
      all_goals
        go_wp2_with fail
        go_roundw
        case rel => exact ⟨j + 1, _, xs ++ [1 + y], by go_num, by omega, by simp; omega, (HG2.out.push HB4.out HO3.out hpl hy0 hy2).to_ (by omega), (HB2.out.trans (HB4.out.mono (by omega))).setCell (by show w.heap.size + 1 ≤ w1.heap.size; omega) _⟩
        case measure => simp [intOf]; omega
    · obtain rfl : j = 5 := by omega
      obtain ⟨g, cap, rfl, hg, hcap, hI⟩ := HG.out.own hl
      obtain ⟨_, s0, s1⟩ := four_lens hl HX.out
      have R0' : wo.cell? ⟨w.heap.size, 0, none⟩ = some (.int .i64 0) := (HB.out.cell (p := ⟨w.heap.size, 0, none⟩) (Nat.lt_succ_self _)).trans R0
      have R1' : wo.cell? ⟨w.heap.size, 1, none⟩ = some (.slice none 0 0) := (HB.out.cell (p := ⟨w.heap.size, 1, none⟩) (Nat.lt_succ_self _)).trans R1
      have HRF' := Lib.hid (show ∀ o, wo.frozen? ⟨w.heap.size, o, none⟩ = false from fun o => (HB.out.frozen (p := ⟨w.heap.size, o, none⟩) (Nat.lt_succ_self _)).trans (HRF.out o))
      go_wp2_with fail
      refine (l17Sum_any _ _ _ xs _ hI).mono ?_; rintro e w' ⟨rfl, rfl⟩
      go_wp2_with fail
      refine (pick_any p 5 _ _ HS.out (by omega)).mono ?_; rintro e w2 ⟨y, rfl, ⟨hy0, hy1⟩, hS2, hD2⟩
      have hy2 : y < 5 := by omega
      have hG2 := HG.out.at (Below.refl _ _) hD2 hS2 hpl
      have HB2 := Lib.hid (HB.out.trans ((hD2.below (B := w.heap.size + 1) (Below.refl _ _) (by omega) hp)))
      have HOK := Lib.hid (drawn_ok hl HX.out hy0 hy2)
      obtain ⟨_, _, d0, d1, df, hK2, _⟩ := hG2
      have df0 := df 0
      have q0 := (hD2.cell (b := w.heap.size) (by omega) (by omega) 0).trans R0'
      have q1 := (hD2.cell (b := w.heap.size) (by omega) (by omega) 1).trans R1'
      have u0 := (hD2.frozen (b := w.heap.size) (by omega) (by omega) 0).trans (HRF'.out 0)
      have u1 := (hD2.frozen (b := w.heap.size) (by omega) (by omega) 1).trans (HRF'.out 1)
      have HI2 := Lib.hid (hI.grown hD2 (fun b off e => by simp only [Option.some.injEq, Addr.mk.injEq, and_true] at e; simp; omega))
      have hne : w.heap.size ≠ w1.heap.size := by omega
      clear hI hS2 hD2 hy1 df c0 c1 R0 R1 R0' R1' HG HS HX HB
      go_wp2_with fail
      refine (l00MaxK_any _ _ _).mono ?_; rintro e w' ⟨rfl, rfl⟩
      go_wp2_with fail
      refine (l00Min_any _ _ _).mono ?_; rintro e w' ⟨rfl, rfl⟩
      generalize min 24 (max 6 (sumL xs + y)) = ch at HOK
      go_wp2_with fail
      refine bodyPost_ret (v := .agg #[.int .i64 ch, .slice (some ⟨g, 0, none⟩) 5 cap]) (by simp [results, Tryd.results8, go_sem, q0, q1]) rfl ?_
      have hg1 : g ≠ w1.heap.size := by omega
      have hg2 : g ≠ w.heap.size := by omega
      exact ⟨ch, g, cap, xs, rfl, HOK.out, ((HI2.out.farK hg1 _).farK hg2 _).farK hg2 _, hcap, ((B1.trans ((HB2.out.mono (by omega)).setCell (by show w.heap.size ≤ w1.heap.size; omega) _)).setCell (Nat.le_refl _) _).setCell (Nat.le_refl _) _⟩
end Go.Proofs.YtnccooeaeomjfaaDoor
