/- The contract of the draw of two lists of racks. -/
import Derived.Test.YtoghgbbepjpelaaDoorRD6
namespace Go.Proofs.YtoghgbbepjpelaaDoor
open Go.RowKit
set_option linter.unusedVariables false

theorem cells_of_RS {W : World} {b off m : Nat} {ys : List Rack} (hm : ys.length = m) (h : ∀ j, j < m → (nt ys j).lies W b (off + j * 4)) : ∀ (j : Nat) (u : Value), (cellsRack ys)[j]? = some u → W.cell? ((⟨b, off, none⟩ : Addr).add j) = some u := by
  intro j u hj
  have hlen := (List.getElem?_eq_some_iff.1 hj).1
  rw [cellsRack_len] at hlen
  have hq : j / 4 < ys.length := by omega
  obtain ⟨e0, e1, e2, e3⟩ := cellsRack_get hq
  obtain ⟨c0, c1, c2, c3⟩ := h (j / 4) (by omega)
  rw [add_plain]
  have hr : j % 4 = 0 ∨ j % 4 = 1 ∨ j % 4 = 2 ∨ j % 4 = 3 := by omega
  rcases hr with r | r | r | r
  · rw [show j = j / 4 * 4 by omega, e0] at hj
    rw [← Option.some.inj hj, show off + j = off + j / 4 * 4 by omega]; exact c0
  · rw [show j = j / 4 * 4 + 1 by omega, e1] at hj
    rw [← Option.some.inj hj, show off + j = off + j / 4 * 4 + 1 by omega]; exact c1
  · rw [show j = j / 4 * 4 + 2 by omega, e2] at hj
    rw [← Option.some.inj hj, show off + j = off + j / 4 * 4 + 2 by omega]; exact c2
  · rw [show j = j / 4 * 4 + 3 by omega, e3] at hj
    rw [← Option.some.inj hj, show off + j = off + j / 4 * 4 + 3 by omega]; exact c3
/-- A whole list of racks is appended. -/
theorem wpList_appRackS (W : World) {ops : Array Oper} {rest : List Oper} {o : Oper} {a : Act} {Q : Exit → Act → World → Prop} (hgd : o.guard = none) (s x : Operand)
    (ho : o.op = .call { callee := .builtin .append, args := #[s, x], argTypes := #[31, 31] })
    (base : Nat) (v : Value) (l : List Rack) (hown : OwnRack W base v l) (hs : a.eval s = v)
    (b off m c : Nat) (ys : List Rack) (hx : a.eval x = .slice (some ⟨b, off, none⟩) m c) (hm : ys.length = m) (hy : ∀ j, j < m → (nt ys j).lies W b (off + j * 4))
    (hlen : l.length + m ≤ 1000000) (hbase : base ≤ W.heap.size)
    (h : ∀ v' w', OwnRack w' base v' (l ++ ys) → (∀ {B : Nat} {a : World}, B ≤ base → Below B a W → Below B a w') → W.heap.size ≤ w'.heap.size → wpList Tryd.prog ops Q rest (a.put o.dst v') w') :
    wpList Tryd.prog ops Q (o :: rest) a W := by
  obtain ⟨i, hi, hz0, hz1, hz2⟩ := info_parts info_Rack1
  obtain ⟨g, cap, rfl, hg, hr⟩ := hown
  refine wpList_append_own (w := W) hgd s x 31 ho base 43 i _ 4 32 Tryd.underlying31 hi hz0 hz1 hz2 rfl (by decide) _ _ _ hs hr ⟨b, off, none⟩ m c (cellsRack ys) hx (by rw [cellsRack_len, hm]) (cells_of_RS hm hy) cellsRack_one
    (by unfold maxLen; omega) (by omega) hbase fun v' w' hown' hgr hnil => h v' w' ?_ ?_ hgr.size
  · rcases hown'.2 with ⟨hv, _⟩ | ⟨g', cap', cur, hv, hg', _⟩
    · have := (hnil.1 hv).1
      cases this
    · refine ⟨g', cap', by rw [hv, List.length_append, hm], hg', ?_⟩
      rw [hv] at hown'
      rw [List.length_append, hm, cellsRack_append]
      exact hown'
  · intro B a hB hb
    refine hb.grown hgr (by omega) (fun k hk => ?_)
    simp [Value.ownBlock] at hk
    omega
theorem OwnRack.setNeeds0 {w : World} {base g n cap : Nat} {l : List Rack} (h : OwnRack w base (.slice (some ⟨g, 0, none⟩) n cap) l) (x : Int) (h0 : 0 < n) : ∃ l', l'.length = l.length ∧ OwnRack (w.setCell ⟨g, 3, none⟩ (.int .i64 x)) base (.slice (some ⟨g, 0, none⟩) n cap) l' := by
  obtain ⟨g', cap', hv, hg, ho⟩ := h
  simp only [Value.slice.injEq, Option.some.injEq, Addr.mk.injEq, and_true] at hv
  obtain ⟨rfl, rfl, rfl⟩ := hv
  cases l with
  | nil => simp at h0
  | cons r t =>
    refine ⟨{ r with Needs := x } :: t, rfl, g, cap, rfl, hg, ?_⟩
    have h1 := (ho.stored 3 (.int .i64 x)).1
    exact h1
theorem RackS.farSet {w : World} {g n q o : Nat} {xs : List Rack} (h : RackS w (some ⟨g, 0, none⟩) n xs) (hne : g ≠ q) (u : Value) : RackS (w.setCell ⟨q, o, none⟩ u) (some ⟨g, 0, none⟩) n xs :=
  ⟨h.len, h.bound, fun hn => by
    obtain ⟨b, off, e, hlt, hc⟩ := h.cell hn
    simp only [Option.some.injEq, Addr.mk.injEq, and_true] at e
    obtain ⟨rfl, rfl⟩ := e
    exact ⟨g, 0, rfl, by simpa [World.setCell] using hlt, fun j hj => (hc j hj).keep fun o' => World.cell?_setCell_other _ _ _ _ (fun e => hne (congrArg Addr.block e).symm)⟩⟩
theorem RackS.farBelow {w w' : World} {g n B : Nat} {xs : List Rack} (h : RackS w (some ⟨g, 0, none⟩) n xs) (hb : Below B w w') (hg : g < B) : RackS w' (some ⟨g, 0, none⟩) n xs :=
  ⟨h.len, h.bound, fun hn => by
    obtain ⟨b, off, e, hlt, hc⟩ := h.cell hn
    simp only [Option.some.injEq, Addr.mk.injEq, and_true] at e
    obtain ⟨rfl, rfl⟩ := e
    exact ⟨g, 0, rfl, Nat.lt_of_lt_of_le hlt hb.size, fun j hj => (hc j hj).keep fun o => hb.cell (p := ⟨g, o, none⟩) hg⟩⟩
set_option maxHeartbeats 8000000 in
set_option maxRecDepth 100000 in
theorem drawSameRacks_any (A : Option Addr) (n c : Nat) (w : World) (h : Bys w A n) :
    Calls Tryd.prog 22 #[.slice A n c] w (TwoRacks w) := by
  have HB := Lib.hid h; clear h
  go_enter Tryd.func22, Tryd.ntmps22
  go_wp2_with fail
  refine (from_any A n c _ HB.out).mono ?_; rintro e w1 ⟨p, rfl, hp, hS, hb1⟩
  have hpl := hS.lt
  have HS := Lib.hid hS; clear hS
  go_wp2_with fail
  refine (rackDraw_any p 0 _ HS.out (by omega) (by omega)).mono ?_; rintro e w2 ⟨v, l, rfl, hO2, hl1, hS2, hD2⟩
  obtain ⟨g, cap, rfl, hg, hgc, hRow⟩ := hO2.row
  have hgl := hRow.lt
  have HX := Lib.hid (hRow.S rfl (by omega))
  have HL := Lib.hid (fun j (hj : j < l.length) => hRow.cell j hj)
  have HS2 := Lib.hid hS2; have HD2 := Lib.hid (hD2.below hb1 hb1.size hp)
  have hz2 := Nat.le_trans hb1.size hD2.size
  have hzz := hD2.size
  clear hS2 hD2 hO2 hRow
  have A2 : Below w2.heap.size w2 (w2.alloc (.cells #[] 43)) := (Below.refl _ _).alloc (Nat.le_refl _) _
  have HO3 := Lib.hid (OwnRack.made' (base := w2.heap.size) (w := w2) (Nat.le_refl _) rfl)
  have HLA := Lib.hid (fun j (hj : j < l.length) => (show (nt l j).lies (w2.alloc (.cells #[] 43)) g (0 + j * 4) from by
    rw [Nat.zero_add]; exact (HL.out j hj).keep fun o => A2.cell (p := ⟨g, o, none⟩) hgl))
  have HA2 := Lib.hid A2
  clear A2
  go_upto_region 4 with (at_builtin; refine wpList_appRackS _ rfl (.tmp 11) (.tmp 12) rfl w2.heap.size _ _ HO3.out rfl g 0 l.length cap l rfl rfl HLA.out (by simp; omega) (by simp) ?_; intro v4 w4 hO4 hk4 hs4)
  have hB4 := hk4 (Nat.le_refl _) HA2.out
  have hform : ∃ g4 cap4, v4 = .slice (some ⟨g4, 0, none⟩) l.length cap4 := by
    obtain ⟨g4, cap4, e, _⟩ := hO4
    exact ⟨g4, cap4, by simpa using e⟩
  obtain ⟨g4, cap4, rfl⟩ := hform
  have HX4 := Lib.hid (HX.out.below hB4)
  have HO4 := Lib.hid (show OwnRack w4 w2.heap.size (.slice (some ⟨g4, 0, none⟩) l.length cap4) l by simpa using hO4)
  have HS4 := Lib.hid (HS2.out.below hB4)
  have HD4 := Lib.hid (HD2.out.trans (hB4.mono hz2))
  have hz4 := hB4.size
  have hpg : p < g := by omega
  clear hO4 hk4 hs4 hB4 HX HL HLA HO3 HS2 HD2 HA2
  go_cut [20] (fun v wx => ∃ t, v = .bool t ∧ (t = true → 0 < l.length) ∧ RackS wx (some ⟨g, 0, none⟩) l.length l ∧ OwnRack wx w2.heap.size (.slice (some ⟨g4, 0, none⟩) l.length cap4) l ∧ Src wx p 120 ∧ Below w.heap.size w wx ∧ w2.heap.size ≤ wx.heap.size)
  case first =>
    by_cases hl0 : l.length = 0
    · have hl2 : ¬ (0 : Int) < (l.length : Int) := by omega
      clear hl0
      go_wp2_with fail
      go_meet
      exact ⟨false, rfl, fun h => (by cases h), HX4.out, HO4.out, HS4.out.mono (by omega), HD4.out, by omega⟩
    · have hl2 : (0 : Int) < (l.length : Int) := by omega
      go_wp2_with fail
      refine (one_any p 2 _ _ HS4.out (by omega)).mono ?_; rintro e w5 ⟨t, rfl, hS5, hD5⟩
      have HX5 := Lib.hid (HX4.out.keptR hD5 (at_some (B := p + 1) (by omega)))
      have HO5 := Lib.hid (HO4.out.grown hD5 (by omega))
      have HS5 := Lib.hid hS5
      have HD5 := Lib.hid (hD5.below HD4.out (by omega) hp)
      have hz5 := hD5.size
      clear hS5 hD5 HX4 HO4 HS4 HD4
      go_wp2_with fail
      go_meet
      exact ⟨t, rfl, fun _ => (by omega), HX5.out, HO5.out, HS5.out.mono (by omega), HD5.out, by omega⟩
  case rest =>
    obtain ⟨t, rfl, hlt, hX5, hO5, hS5, hD5, hz5⟩ := hcut
    obtain ⟨w5, rfl⟩ : ∃ u : World, u = wc := ⟨_, rfl⟩
    have HX5 := Lib.hid hX5; have HO5 := Lib.hid hO5; have HS5 := Lib.hid hS5; have HD5 := Lib.hid hD5
    clear hX5 hO5 hS5 hD5 HX4 HO4 HS4 HD4
    go_upto_if 20 with fail
    go_cut [21] (fun _ wx => ∃ l', l'.length = l.length ∧ RackS wx (some ⟨g, 0, none⟩) l.length l ∧ OwnRack wx w2.heap.size (.slice (some ⟨g4, 0, none⟩) l.length cap4) l' ∧ Src wx p 160 ∧ Below w.heap.size w wx ∧ w2.heap.size ≤ wx.heap.size)
    case first =>
      cases t with
      | false =>
        go_wp2_with fail
        go_meet
        exact ⟨l, rfl, HX5.out, HO5.out, HS5.out.mono (by omega), HD5.out, by omega⟩
      | true =>
        have hl0 := hlt rfl
        obtain ⟨ga, ca, ea, hga, _, hRow⟩ := HO5.out.row
        simp only [Value.slice.injEq, Option.some.injEq, Addr.mk.injEq, and_true, true_and] at ea
        obtain ⟨rfl, rfl⟩ := ea
        have HR5 := Lib.hid hRow
        obtain ⟨_, _, _, c2⟩ := hRow.cell 0 (by omega)
        rw [Nat.zero_mul, Nat.zero_add] at c2
        have f2 := hRow.frozen 3
        have hl1' : (0 : Int) < (l.length : Int) := by omega
        clear hRow
        go_wp2_with fail
        go_region_with ((go_at_call 44; refine (pick_any p 2 _ _ (HS5.out.below (by first | exact Below.refl _ _ | exact bel_drew (Below.refl _ _))) (by omega)).mono ?_; rintro e w6 ⟨y, rfl, ⟨hy0, hy1⟩, hS6, hD6⟩; have HX6 := Lib.hid ((HX5.out.below (by first | exact Below.refl _ _ | exact bel_drew (Below.refl _ _))).keptR hD6 (at_some (B := p + 1) (by omega))); have HO6 := Lib.hid ((HO5.out.below (by first | exact Below.refl _ _ | exact bel_drew (Below.refl _ _))).grown hD6 (by omega)); have hR6 := (HR5.out.below (by first | exact Below.refl _ _ | exact bel_drew (Below.refl _ _))).grownF hD6 (by omega); have c26 : w6.cell? ⟨g4, 3, none⟩ = some (.int .i64 (nt l 0).Needs) := (by have h := (hR6.cell 0 (by omega)).2.2.2; rwa [Nat.zero_mul, Nat.zero_add] at h); have f26 := hR6.frozen 3; have HS6 := Lib.hid hS6; have HD6 := Lib.hid (hD6.below (HD5.out.trans (show Below w.heap.size w5 _ from (by first | exact Below.refl _ _ | exact bel_drew (Below.refl _ _)))) (show w.heap.size ≤ _ from (by first | omega | (simp; omega))) hp); have hz6 : w5.heap.size ≤ w6.heap.size := hD6.size; clear hS6 hD6 hR6 hy1))
        all_goals
          go_wp2_with fail
          go_meet
          obtain ⟨l', hl', hO'⟩ := HO6.out.setNeeds0 (IntKind.i64.wrap ((nt l 0).Needs + y)) (by omega)
          have S6 : Below w2.heap.size w6 (w6.setCell ⟨g4, 3, none⟩ (.int .i64 (IntKind.i64.wrap ((nt l 0).Needs + y)))) := (Below.refl _ w6).setCell (p := ⟨g4, 3, none⟩) hga _
          exact ⟨l', hl', HX6.out.farBelow S6 hgl, hO', (HS6.out.step S6 (by omega)).mono (by omega), HD6.out.trans (S6.mono hz2), by simp [World.setCell]; omega⟩
    case rest =>
      obtain ⟨l', hl', hX, hO, hS, hB, hz6⟩ := hcut
      obtain ⟨w6, rfl⟩ : ∃ u : World, u = wc := ⟨_, rfl⟩
      have HX6 := Lib.hid hX; have HO6 := Lib.hid hO; have HS6 := Lib.hid hS; have HB6 := Lib.hid hB
      have HL' := Lib.hid hl'
      clear hX hO hS hB HX5 HO5 HS5 HD5 hl'
      go_wp2_with fail
      refine (one_any p 5 _ _ HS6.out (by omega)).mono ?_; rintro e w7 ⟨t, rfl, hS7, hD7⟩
      have HX7 := Lib.hid (HX6.out.keptR hD7 (at_some (B := p + 1) (by omega)))
      have HO7 := Lib.hid (HO6.out.grown hD7 (by omega))
      have HB7 := Lib.hid (hD7.below HB6.out (by omega) hp)
      have hz7 := hD7.size
      clear hS7 hD7
      cases t with
      | false =>
        go_wp2_with fail
        go_ret2
        obtain ⟨g', cap', e, _, _, hR⟩ := HO7.out.row
        exact ⟨_, _, _, l, _, _, _, l', rfl, HX7.out, by
          simp only [Value.slice.injEq, Option.some.injEq, Addr.mk.injEq, and_true, true_and] at e
          obtain ⟨rfl, _, rfl⟩ := e
          have h9 := hR.S rfl (by have := HL'.out; omega)
          rw [HL'.out] at h9
          exact h9, HB7.out⟩
      | true =>
        have hz8 : w2.heap.size ≤ w7.heap.size := by omega
        go_wp2_with (at_builtin; refine wpList_appRack1 _ rfl (.tmp 32) (.tmp 34) rfl w2.heap.size _ _ HO7.out rfl ⟨0, 0, 0, 0⟩ _ rfl rfl (by rw [HL'.out]; omega) hz8 ?_; intro v8 w8 hO8 hk8 hs8)
        have hB8 : Below w2.heap.size w7 w8 := hk8 (Nat.le_refl _) (Below.refl _ _)
        go_ret2
        obtain ⟨g', cap', rfl, _, _, hR⟩ := hO8.row
        exact ⟨_, _, _, l, _, _, _, _, rfl, HX7.out.farBelow hB8 hgl, hR.S rfl (by have := HL'.out; simp; omega), HB7.out.trans (hB8.mono hz2)⟩
end Go.Proofs.YtoghgbbepjpelaaDoor
