/- The contracts of the draws of firings: degrees by some rules. -/
import Derived.Test.YtoghgbbepjpelaaGreatDoorHD1
import Derived.Test.YtoghgbbepjpelaaGreatDoorX2
import Derived.Test.YtoghgbbepjpelaaGreatDoorOwX
import Derived.Test.YtoghgbbepjpelaaGreatDoorAm
import Derived.Test.YtoghgbbepjpelaaGreatDoorRc
import Derived.Test.YtoghgbbepjpelaaGreatDoorFP
import Derived.Deep.DeepCutAuto
import Derived.Deep.CutBlock
namespace Go.Proofs.YtoghgbbepjpelaaGreatDoor
open Go.RowKit
set_option linter.unusedVariables false

theorem OwnS.takeC {w W : World} {base g cap : Nat} {e : TypeId} {l : List Int} (h : OwnS w base e (.slice (some ⟨g, 0, none⟩) l.length cap) (l.map (.int .i64))) (hb : Below w.heap.size w W) {k : Nat} (hk : k < l.length) : ∀ j, j < k + 1 → W.cell? ⟨g, 0 + j, none⟩ = some (.int .i64 (nth (l.take (k + 1)) j)) := fun j hj => by
  have h1 : nth (l.take (k + 1)) j = nth l j := by simp [nth, List.getD_eq_getElem?_getD, hj]
  rw [Nat.zero_add, h1]
  exact (hb.cell (p := ⟨g, j, none⟩) h.parts.2.2.1).trans (h.at_ (by omega))
theorem OwnS.dropC {w W : World} {base g cap : Nat} {e : TypeId} {l : List Int} (h : OwnS w base e (.slice (some ⟨g, 0, none⟩) l.length cap) (l.map (.int .i64))) (hb : Below w.heap.size w W) {k : Nat} : ∀ (j : Nat) (u : Value), ((l.drop k).map (Value.int .i64))[j]? = some u → W.cell? ⟨g, k + j, none⟩ = some u := fun j u hj => by
  have hjl : j < (l.drop k).length := by simpa using (List.getElem?_eq_some_iff.1 hj).1
  rw [List.getElem?_map, List.getElem?_eq_getElem hjl] at hj
  simp only [Option.map_some, Option.some.injEq, List.getElem_drop] at hj
  rw [List.length_drop] at hjl
  rw [← hj, ← nth_lt (show k + j < l.length by omega)]
  exact (hb.cell (p := ⟨g, k + j, none⟩) h.parts.2.2.1).trans (h.at_ (by omega))
/-- A whole slice appended, at a step of a region that draws its order. -/
theorem step_appSo {P : Program} (W : World) {ops : Array Oper} {o : Oper} {a : Act} {K : Act → World → Prop} {Q : Exit → Act → World → Prop} {E : Prop} (hgd : o.guard = none) (s x : Operand) (t : TypeId)
    (ho : o.op = .call { callee := .builtin .append, args := #[s, x], argTypes := #[t, t] })
    (base : Nat) (e : TypeId) (z : Value) (bytes : Nat) (ht : P.underlying t = some (.slice e)) (hinfo : (P.info? e).map (fun i => (i.zero, i.size, i.bytes)) = some (some z, 1, bytes)) (hzs : z.cells.size = 1)
    (v : Value) (xs : List Value) (hown : OwnS W base e v xs) (hs : a.eval s = v)
    (b off m c : Nat) (ys : List Value) (hx : a.eval x = .slice (some ⟨b, off, none⟩) m c) (hm : ys.length = m) (hy : ∀ j u, ys[j]? = some u → W.cell? ⟨b, off + j, none⟩ = some u) (h1 : ∀ u ∈ ys, u.oneCell' = true) (hm1 : 1 ≤ m)
    (hlen : xs.length + m ≤ 1048576) (hbytes : bytes ≤ 1024) (hbase : base ≤ W.heap.size)
    (h : ∀ v' w', OwnS w' base e v' (xs ++ ys) → Below base W w' → W.heap.size ≤ w'.heap.size → K (a.put o.dst v') w') :
    if Region.wanted o (yielded ops a.tmps) = true then Oper.wp P o a W K Q else E := by
  obtain ⟨i, hi, hz0, hz1, hz2⟩ := info_parts hinfo
  obtain ⟨g, cap, rfl, hg, hr⟩ := hown
  have hbyt : (xs.length + m) * bytes ≤ 140737488355328 := by
    have := Nat.mul_le_mul hlen hbytes
    omega
  refine step_append_lies W hgd s x t ho base e i z 1 bytes ht hi hz0 hz1 hz2 hzs (by decide) _ xs.length xs hs hr ⟨b, off, none⟩ m c ys hx (by omega) (fun j y hj => by rw [add_plainO]; exact hy j y hj) h1 (by omega)
    (by unfold maxLen; omega) hbyt hbase _ rfl fun g2 cap2 w' hown' hgr hor hlt => h _ w' ?_ ?_ hgr.size
  · have hl := hown'.lt g2 (by simp [Value.ownBlock])
    exact ⟨g2, cap2, by rw [List.length_append, hm], hl.1, by rw [List.length_append, hm]; exact hown'⟩
  · exact (Below.refl _ _).grown hgr hbase (fun k hk => (hr.lt k hk).1)
/-- A copy of some numbers. -/
def CopyO (l : List Int) (w : World) (e : Ending) (w' : World) : Prop := ∃ v, e = .returned v ∧ OwnS w' w.heap.size 2 v (List.map (Value.int .i64) l) ∧ Below w.heap.size w w'
theorem own_any (b off n c : Nat) (l : List Int) (w : World) (hl : l.length = n) (hn : n ≤ 100000) (hb : b < w.heap.size) (hc : ∀ j, j < n → w.cell? ⟨b, off + j, none⟩ = some (.int .i64 (nth l j))) :
    Calls Tryz.prog 52 #[.slice (some ⟨b, off, none⟩) n c] w (CopyO l w) := by
  have HO := Lib.hid (OwnS.made' (e := 2) (w := w) (base := w.heap.size) (Nat.le_refl _) rfl)
  have A1 : Below w.heap.size w (w.alloc (.cells #[] 2)) := (Below.refl _ _).alloc (Nat.le_refl _) _
  have HC := Lib.hid (show ∀ j u, (l.map (Value.int .i64))[j]? = some u → (w.alloc (.cells #[] 2)).cell? ⟨b, off + j, none⟩ = some u from fun j u hj => by
    have hjl : j < l.length := by simpa using (List.getElem?_eq_some_iff.1 hj).1
    rw [List.getElem?_map, List.getElem?_eq_getElem hjl] at hj
    simp only [Option.map_some, Option.some.injEq] at hj
    rw [← hj, ← nth_lt hjl]
    exact (A1.cell (p := ⟨b, off + j, none⟩) hb).trans (hc j (by omega)))
  have HL := Lib.hid hl
  have HB1 := Lib.hid A1
  clear hc hl A1
  go_enter Tryz.func52, Tryz.ntmps52
  go_wp2_with (at_builtin; refine wpList_appSo _ rfl (.tmp 3) (.tmp 4) 27 rfl w.heap.size 2 (.int .i64 0) 8 Tryz.underlying27 info_i64 rfl _ _ HO.out rfl b off n c (l.map (Value.int .i64)) rfl (by rw [List.length_map]; exact HL.out) HC.out (fun u hu => by obtain ⟨q, _, rfl⟩ := List.mem_map.1 hu; rfl) (by simp; omega) (by omega) (by simp) ?_; intro v3 w3 hO3 hk3 hs3)
  have hb3 := hk3 (Nat.le_refl _) HB1.out
  go_ret
  exact ⟨v3, rfl, by simpa using hO3, hb3⟩
/-- Degrees in a slice of the call's own. -/
def FireD (p k : Nat) (m : Int) (w : World) (e : Ending) (w' : World) : Prop := ∃ v l, e = .returned v ∧ OwnS w' w.heap.size 2 v (List.map (Value.int .i64) l) ∧ l.length ≤ k ∧ Src w' p m ∧ Drew p w w'
theorem FireD.mk {p k base : Nat} {m : Int} {w w' : World} {v : Value} {l : List Int} (hO : OwnS w' base 2 v (List.map (Value.int .i64) l)) (hb : base = w.heap.size) (hl : l.length ≤ k) (hS : Src w' p m) (hD : Drew p w w') : FireD p k m w (.returned v) w' := by
  subst hb; exact ⟨v, l, rfl, hO, hl, hS, hD⟩
def FireGo (b : Bool) (xs : List HeatRule) : Prop := b = true → frC xs 20 = 0
theorem FireGo.no (xs : List HeatRule) : FireGo false xs := fun h => by cases h
theorem FireGo.yes {xs : List HeatRule} {b : Bool} (h1 : rulesOk xs = true) (h2 : 20 ≤ (nt xs 0).Upto) : FireGo b xs := fun _ => by rw [frC, if_pos h1, if_pos (inB_true.2 ⟨by omega, h2⟩)]
set_option maxRecDepth 100000 in
set_option maxHeartbeats 8000000 in
theorem l16Fire_any (p : Nat) (m : Int) (A : Option Addr) (n c : Nat) (xs : List HeatRule) (w : World) (h : Src w p m) (hm0 : 0 ≤ m) (hm : m ≤ 10000) (hA : HeatRuleS w A n xs) :
    Calls Tryz.prog 31 #[.pointer (some ⟨p, 0, none⟩), .slice A n c] w (FireD p 201 (m + 20) w) := by
  have hp := h.lt
  have HS0 := Lib.hid h
  have HA := Lib.hid hA
  have HN := Lib.hid hA.len
  clear h hA
  go_enter Tryz.func31, Tryz.ntmps31
  go_upto_region 2 with fail
  go_cut [20] (fun c wx => ∃ b, c = .bool b ∧ FireGo b xs ∧ Below (w.alloc (.cells #[.int .i64 20] 2)).heap.size (w.alloc (.cells #[.int .i64 20] 2)) wx)
  case first =>
    have hA := HA.out.alloc (.cells #[.int .i64 20] 2)
    rcases Bool.eq_false_or_eq_true (rulesOk xs) with g | g
    · have hl := (fr_facts g).1
      rw [HN.out] at hl
      have G := Lib.hid g; clear g
      go_wp2_with fail
      refine (asB (l16Ok_any _ _ _ xs _ hA) G.out).mono ?_; rintro e w1 ⟨rfl, hb1⟩
      obtain ⟨b, off, rfl, hb, hc⟩ := (hA.below hb1).cell (by omega)
      have hx : (nt xs 0).lies w1 b (off + 0 * 3) := hc 0 (by omega)
      rw [Nat.zero_mul, Nat.add_zero] at hx
      obtain ⟨h0, _, _⟩ := hx
      have HB1 := Lib.hid hb1
      clear hc hb1
      by_cases g2 : 20 ≤ (nt xs 0).Upto
      · have FG := Lib.hid (FireGo.yes (b := true) G.out g2)
        go_wp2_with fail
        go_meet
        exact ⟨_, rfl, FG.out, HB1.out⟩
      · have FG := Lib.hid (show FireGo (decide (20 ≤ (nt xs 0).Upto)) xs from fun e => absurd (of_decide_eq_true e) g2)
        go_wp2_with fail
        go_meet
        exact ⟨_, rfl, FG.out, HB1.out⟩
    · have G := Lib.hid g; clear g
      go_wp2_with fail
      refine (asB (l16Ok_any _ _ _ xs _ hA) G.out).mono ?_; rintro e w1 ⟨rfl, hb1⟩
      have HB1 := Lib.hid hb1
      clear hb1
      go_wp2_with fail
      go_meet
      exact ⟨_, rfl, FireGo.no xs, HB1.out⟩
  case rest =>
    obtain ⟨b, rfl, hg, hb1⟩ := hcut
    obtain ⟨w1, rfl⟩ : ∃ u : World, u = wc := ⟨_, rfl⟩
    have HG := Lib.hid hg
    have HB1 := Lib.hid (Below.trans ((Below.refl w.heap.size w).alloc (Nat.le_refl _) (.cells #[.int .i64 20] 2)) (hb1.mono (by simp)))
    have HO1 := Lib.hid ((OwnS.one (w := w) (base := w.heap.size) (e := 2) (u := .int .i64 20) (Nat.le_refl _) rfl).below hb1)
    clear hg hb1
    go_upto_if 20 with fail
    go_cut [5] (fun v wx => ∃ l : List Int, OwnS wx w.heap.size 2 v (l.map (.int .i64)) ∧ 1 ≤ l.length ∧ l.length ≤ 200 ∧ Below w.heap.size w wx)
    case first =>
      cases b with
      | false =>
        go_wp2_with fail
        go_meet
        exact ⟨[20], HO1.out, by simp, by simp, HB1.out⟩
      | true =>
        go_wp2_with fail
        refine (l16Fast_any _ _ _ xs 20 _ (HA.out.below HB1.out) (HG.out rfl)).mono ?_; rintro e w2 ⟨A2, n2, c2, ok, rfl, h, hb2⟩
        rcases h with ⟨rfl, hf⟩ | ⟨rfl, hf, hI, hF, hN, hO⟩
        · go_wp2_with fail
          go_meet
          exact ⟨[20], HO1.out.below hb2, by simp, by simp, HB1.out.trans (hb2.mono HB1.out.size)⟩
        · have HO := Lib.hid hO
          have E := Lib.hid (fast_ok (HG.out rfl) hf)
          clear hO hI hF hN
          go_wp2_with fail
          go_meet
          exact ⟨_, HO.out.base HB1.out.size, E.out.1, E.out.2, HB1.out.trans (hb2.mono HB1.out.size)⟩
    case rest =>
      obtain ⟨l, hO, hl0, hl1, hB⟩ := hcut
      have hform := hO.form
      rw [List.length_map] at hform
      obtain ⟨g, cap, rfl⟩ := hform
      obtain ⟨w2, rfl⟩ : ∃ u : World, u = wc := ⟨_, rfl⟩
      have HO2 := Lib.hid hO
      have HS2 := Lib.hid (HS0.out.below hB)
      have HD2 := Lib.hid (Drew.of_below (p := p) hB)
      have hgb := hO.parts.2.1
      have hgc := hO.parts.2.2.2.1
      clear hO hB HS0 HB1 HO1 HG
      go_wp2_with fail
      refine (pick_any p 10 _ _ HS2.out (by omega)).mono ?_; rintro e w3 ⟨x, rfl, ⟨hx0, hx1⟩, hS3, hD3⟩
      have HO3 := Lib.hid (HO2.out.grown hD3 hp)
      have HS3 := Lib.hid hS3
      have HD3 := Lib.hid (HD2.out.trans hD3)
      have hcase : x = 0 ∨ x = 1 ∨ x = 2 ∨ x = 3 ∨ x = 4 ∨ x = 5 ∨ (x ≠ 0 ∧ x ≠ 1 ∧ x ≠ 2 ∧ x ≠ 3 ∧ x ≠ 4 ∧ x ≠ 5) := by omega
      clear hS3 hD3 hx1 HO2 HS2 HD2
      go_upto_block 0 with fail
      go_cut [5] (fun v wx => ∃ l : List Int, OwnS wx w.heap.size 2 v (l.map (.int .i64)) ∧ l.length ≤ 201 ∧ Src wx p (m + 8) ∧ Drew p w wx)
      case first =>
        rcases hcase with rfl | rfl | rfl | rfl | rfl | rfl | ⟨x0, x1, x2, x3, x4, x5⟩
        · go_wp2_with fail
          refine (pick_any p _ _ _ HS3.out (by omega)).mono ?_; rintro e w4 ⟨y, rfl, ⟨hy0, hy1⟩, hS4, hD4⟩
          obtain ⟨k, rfl⟩ := Int.eq_ofNat_of_zero_le hy0
          have hk : k < l.length := by omega
          have HO4 := Lib.hid (HO3.out.grown hD4 hp)
          have HS4 := Lib.hid hS4
          have HD4 := Lib.hid (HD3.out.trans hD4)
          have c0 := HO4.out.at_ hk
          have f0 := HO4.out.fz k
          clear hS4 hD4 hy1
          go_wp2_with fail
          go_meet
          exact ⟨l.set k _, by rw [← map_set]; exact HO4.out.set k _, by simp; omega, (HS4.out.mono (by omega)).step (B := w.heap.size) ((Below.refl _ w4).setCell (p := ⟨g, k, none⟩) hgb _) hp, HD4.out.step ((Below.refl _ w4).setCell (p := ⟨g, k, none⟩) hgb _)⟩
        · go_wp2_with fail
          refine (pick_any p _ _ _ HS3.out (by omega)).mono ?_; rintro e w4 ⟨y, rfl, ⟨hy0, hy1⟩, hS4, hD4⟩
          obtain ⟨k, rfl⟩ := Int.eq_ofNat_of_zero_le hy0
          have hk : k < l.length := by omega
          have HO4 := Lib.hid (HO3.out.grown hD4 hp)
          have HS4 := Lib.hid hS4
          have HD4 := Lib.hid (HD3.out.trans hD4)
          have c0 := HO4.out.at_ hk
          have f0 := HO4.out.fz k
          clear hS4 hD4 hy1
          go_wp2_with fail
          go_meet
          exact ⟨l.set k _, by rw [← map_set]; exact HO4.out.set k _, by simp; omega, (HS4.out.mono (by omega)).step (B := w.heap.size) ((Below.refl _ w4).setCell (p := ⟨g, k, none⟩) hgb _) hp, HD4.out.step ((Below.refl _ w4).setCell (p := ⟨g, k, none⟩) hgb _)⟩
        · go_wp2_with fail
          refine (pick_any p _ _ _ HS3.out (by omega)).mono ?_; rintro e w4 ⟨y, rfl, ⟨hy0, hy1⟩, hS4, hD4⟩
          obtain ⟨k, rfl⟩ := Int.eq_ofNat_of_zero_le hy0
          have hk : k < l.length := by omega
          have HO4 := Lib.hid (HO3.out.grown hD4 hp)
          have HS4 := Lib.hid hS4
          have HD4 := Lib.hid (HD3.out.trans hD4)
          clear hS4 hD4 hy1
          go_wp2_with fail
          go_meet
          exact ⟨l.take k, by rw [← map_take]; exact HO4.out.take (by omega), by simp; omega, HS4.out.mono (by omega), HD4.out⟩
        · have hw1 : IntKind.i64.wrap ((l.length : Int) - 1) = (l.length : Int) - 1 := IntWalk.i64_in _ (by omega)
          have hw2 : 0 ≤ (l.length : Int) - 1 := by omega
          have hw3 : ((l.length : Int) - 1).toNat = l.length - 1 := by omega
          have hw4 : (l.length : Int) - 1 < (l.length : Int) := by omega
          have hw5 : (1 : Int) ≤ (l.length : Int) := by omega
          have c3 := HO3.out.at_ (show l.length - 1 < l.length by omega)
          go_wp2_with fail
          go_region_law ((first
            | (refine step_appC _ (by rfl) (.tmp 61) (.tmp 71) 27 (by rfl) w.heap.size 2 (.int .i64 0) 8 Tryz.underlying27 info_i64 rfl (.slice (some ⟨g, 0, none⟩) l.length cap) (l.map (.int .i64)) (.inr (HO4.out.below (by first | exact Below.refl _ _ | exact bel_drew (Below.refl _ _) | exact (bel_drew (Below.refl _ _)).alloc (by simp) _ | exact bel_drew ((Below.refl _ _).alloc (by simp) _) | exact (Below.refl _ _).alloc (by simp) _))) (by rfl) (.int .i64 (IntKind.i64.wrap (IntKind.i64.wrap (nth l (l.length - 1) + y) - 1))) w4.heap.size (by rfl) (by go_simp) rfl (by rw [List.length_map]; omega) (by omega) (by first | exact hz4 | (simp; omega)) ?_
               intro v5 w5 hO5 hB5 hs5
               have hB6 : Below w.heap.size w4 w5 := Below.trans (Below.mono (B := w4.heap.size) (by first | exact Below.refl _ _ | exact bel_drew (Below.refl _ _) | exact (bel_drew (Below.refl _ _)).alloc (by simp) _ | exact bel_drew ((Below.refl _ _).alloc (by simp) _) | exact (Below.refl _ _).alloc (by simp) _) hz4) hB5
               have HO5 := Lib.hid hO5
               have HB6 := Lib.hid hB6
               obtain ⟨g5, cp5, e5, _, _⟩ := hO5
               generalize (l.map (Value.int .i64) ++ [Value.int .i64 (IntKind.i64.wrap (IntKind.i64.wrap (nth l (l.length - 1) + y) - 1))]).length = n5 at e5
               subst e5
               clear hB5 hB6)
            | (go_simp
               go_at_call 47
               refine (pick_any p 3 _ _ (HS3.out.below (by first | exact Below.refl _ _ | exact bel_drew (Below.refl _ _) | exact (bel_drew (Below.refl _ _)).alloc (by simp) _ | exact bel_drew ((Below.refl _ _).alloc (by simp) _) | exact (Below.refl _ _).alloc (by simp) _)) (by omega)).mono ?_
               rintro e w4 ⟨y, rfl, ⟨hy0, hy1⟩, hS4, hD4⟩
               have hO4 := (HO3.out.below (by first | exact Below.refl _ _ | exact bel_drew (Below.refl _ _))).grown hD4 hp
               have c4 := hO4.at_ (show l.length - 1 < l.length by omega)
               have HO4 := Lib.hid hO4
               have HS4 := Lib.hid hS4
               have HD4 := Lib.hid ((HD3.out.step (by first | exact Below.refl _ _ | exact bel_drew (Below.refl _ _))).trans hD4)
               have hz4 : w.heap.size ≤ w4.heap.size := HD4.out.size
               clear hS4 hD4 hy1 hO4)))
          all_goals
            go_wp2_with fail
            go_meet
            exact ⟨l ++ [_], by rw [map_snoc]; exact HO5.out, by simp; omega, (HS4.out.mono (by omega)).step HB6.out hp, HD4.out.step HB6.out⟩
        · go_wp2_with fail
          refine (pick_any p _ _ _ HS3.out (by omega)).mono ?_; rintro e w4 ⟨y, rfl, ⟨hy0, hy1⟩, hS4, hD4⟩
          obtain ⟨k, rfl⟩ := Int.eq_ofNat_of_zero_le hy0
          have hk : k < l.length := by omega
          have HO4 := Lib.hid (HO3.out.grown hD4 hp)
          have HS4 := Lib.hid hS4
          have HD4 := Lib.hid (HD3.out.trans hD4)
          have hz4 := HD4.out.size
          have hgl := HO4.out.parts.2.2.1
          have hw1 : IntKind.i64.wrap ((k : Int) + 1) = (k : Int) + 1 := IntWalk.i64_in _ (by omega)
          have hw2 : 0 ≤ (k : Int) + 1 := by omega
          have hw3 : ((k : Int) + 1).toNat = k + 1 := by omega
          have hkc : k < cap := by omega
          have hkc1 : k + 1 ≤ cap := by omega
          have hkc2 : (k : Int) + 1 ≤ (cap : Int) := by omega
          have hkc3 : ¬ cap = k := by omega
          have hkc4 : (k : Int) ≤ (l.length : Int) := by omega
          have hkc5 : k ≤ l.length := by omega
          have hkc6 : l.length ≤ cap := by omega
          clear hS4 hD4 hy1
          go_wp2_with fail
          go_region_law ((first
            | (refine step_appSo _ (by rfl) (.tmp 82) (.tmp 85) 27 (by rfl) w.heap.size 2 (.int .i64 0) 8 Tryz.underlying27 info_i64 rfl _ _ (HO5.out.below (by first | exact Below.refl _ _ | exact bel_drew (Below.refl _ _))) (by rfl) g k (l.length - k) _ ((l.drop k).map (.int .i64)) (by rfl) (by simp) (HO4.out.dropC (by first | exact HB5.out | exact bel_drew HB5.out)) (fun u hu => by obtain ⟨q, _, rfl⟩ := List.mem_map.1 hu; rfl) (by omega) (by simp; omega) (by omega) (by first | exact hz5 | (simp; omega)) ?_
               intro v6 w6 hO6 hB6 hs6
               have HO6 := Lib.hid hO6
               have HB6 := Lib.hid (Below.trans (show Below w.heap.size w4 _ from (Below.mono HB5.out hz4)) (Below.trans (show Below w.heap.size w5 _ from (by first | exact Below.refl _ _ | exact bel_drew (Below.refl _ _))) hB6))
               obtain ⟨g6, cp6, e6, _, _⟩ := hO6
               generalize (List.map (Value.int .i64) (l.take (k + 1)) ++ List.map (Value.int .i64) (l.drop k)).length = n6 at e6
               subst e6
               clear hB6)
            | (go_simp
               go_at_call 52
               refine (own_any g 0 (k + 1) _ (l.take (k + 1)) _ (by simp; omega) (by omega) (by first | exact hgl | (simp; exact hgl)) (HO4.out.takeC (by first | exact Below.refl _ _ | exact bel_drew (Below.refl _ _)) hk)).mono ?_
               rintro e w5 ⟨v5, rfl, hO5, hB5⟩
               have HO5 := Lib.hid (hO5.base (base' := w.heap.size) (by first | exact hz4 | (simp; exact hz4)))
               have HB5 := Lib.hid (show Below w4.heap.size w4 w5 from Below.trans (show Below w4.heap.size w4 _ from (by first | exact Below.refl _ _ | exact bel_drew (Below.refl _ _))) hB5)
               have hz5 : w.heap.size ≤ w5.heap.size := Nat.le_trans hz4 HB5.out.size
               obtain ⟨g5, cp5, e5, _, _⟩ := hO5
               rw [List.length_map, show (l.take (k + 1)).length = k + 1 by simp; omega] at e5
               subst e5
               clear hB5)))
          all_goals
            go_wp2_with fail
            go_meet
            exact ⟨l.take (k + 1) ++ l.drop k, by rw [List.map_append]; exact HO6.out, by simp; omega, (HS4.out.mono (by omega)).step HB6.out hp, HD4.out.step HB6.out⟩
        · go_wp2_with fail
          refine (pick_any p _ _ _ HS3.out (by omega)).mono ?_; rintro e w4 ⟨y, rfl, ⟨hy0, hy1⟩, hS4, hD4⟩
          obtain ⟨k, rfl⟩ := Int.eq_ofNat_of_zero_le hy0
          have hk : k < l.length := by omega
          have HO4 := Lib.hid (HO3.out.grown hD4 hp)
          have HS4 := Lib.hid hS4
          have HD4 := Lib.hid (HD3.out.trans hD4)
          clear hS4 hD4 hy1
          go_wp2_with fail
          refine (among_lit p _ _ [-1, 0, 1300, 1301] 2 HS4.out (by omega) (by simp) (by simp)).mono ?_; rintro e w5 ⟨v, rfl, _, hS5, hD5⟩
          have HO5 := Lib.hid (HO4.out.grown hD5 hp)
          have HS5 := Lib.hid hS5
          have HD5 := Lib.hid (HD4.out.trans hD5)
          have c0 := HO5.out.at_ hk
          have f0 := HO5.out.fz k
          clear hS5 hD5
          go_wp2_with fail
          go_meet
          exact ⟨l.set k _, by rw [← map_set]; exact HO5.out.set k _, by simp; omega, (HS5.out.mono (by omega)).step (B := w.heap.size) ((Below.refl _ w5).setCell (p := ⟨g, k, none⟩) hgb _) hp, HD5.out.step ((Below.refl _ w5).setCell (p := ⟨g, k, none⟩) hgb _)⟩
        · have e0 : (x == 0) = false := by simpa using x0
          have e1 : (x == 1) = false := by simpa using x1
          have e2 : (x == 2) = false := by simpa using x2
          have e3 : (x == 3) = false := by simpa using x3
          have e4 : (x == 4) = false := by simpa using x4
          have e5 : (x == 5) = false := by simpa using x5
          go_wp2_with fail
          go_meet
          exact ⟨l, HO3.out, by omega, HS3.out.mono (by omega), HD3.out⟩
      case rest =>
        obtain ⟨l', hO, hl', hS, hD⟩ := hcut
        obtain ⟨w4, rfl⟩ : ∃ u : World, u = wc := ⟨_, rfl⟩
        have HO4 := Lib.hid hO; have HS4 := Lib.hid hS; have HD4 := Lib.hid hD
        clear hO hS hD HO3 HS3 HD3
        go_wp2_with fail
        refine (one_any p 24 _ _ HS4.out (by omega)).mono ?_; rintro e w5 ⟨t, rfl, hS5, hD5⟩
        have HO5 := Lib.hid (HO4.out.grown hD5 hp)
        have HS5 := Lib.hid hS5
        have HD5 := Lib.hid (HD4.out.trans hD5)
        have hz5 := HD5.out.size
        clear hS5 hD5 HO4 HS4 HD4
        cases t with
        | false =>
          go_wp2_with fail
          go_ret
          exact FireD.mk HO5.out rfl hl' (HS5.out.mono (by omega)) HD5.out
        | true =>
          go_wp2_with fail
          refine (pick_any p 2 _ _ HS5.out (by omega)).mono ?_; rintro e w6 ⟨y, rfl, ⟨hy0, hy1⟩, hS6, hD6⟩
          obtain ⟨k, rfl⟩ := Int.eq_ofNat_of_zero_le hy0
          have hk : k < 2 := by omega
          have HS6 := Lib.hid hS6
          have HD6 := Lib.hid (HD5.out.trans hD6)
          have hz6 := HD6.out.size
          have hmk : ∀ W : World, (Instr.makeSlice 27 (.int .i64 (200 + (k : Int))) (.int .i64 (200 + (k : Int)))).run Tryz.prog W = .ok (.slice (some ⟨W.heap.size, 0, none⟩) (200 + k) (200 + k)) (W.alloc (.cells (madeCells #[.int .i64 0] (200 + k)) 2)) := fun W => by
            have h := make_recs (P := Tryz.prog) 27 2 (.int .i64 0) 1 8 Tryz.underlying27 info_i64 (200 + k) (by omega) (by omega) W
            rw [Nat.mul_one, show ((200 + k : Nat) : Int) = 200 + (k : Int) from by simp] at h
            exact h
          clear hS6 hD6 hy1
          go_wp2_with fail
          go_ret
          exact FireD.mk (l := List.replicate (200 + k) 0) (by rw [List.map_replicate]; exact OwnS.made_n (base := w.heap.size) (200 + k) (by omega) rfl (by unfold maxLen; omega)) rfl (by simp; omega) ((HS6.out.mono (by omega)).step (B := w.heap.size) ((Below.refl _ _).alloc (by omega) _) hp) (HD6.out.step ((Below.refl _ _).alloc (by omega) _))
end Go.Proofs.YtoghgbbepjpelaaGreatDoor
