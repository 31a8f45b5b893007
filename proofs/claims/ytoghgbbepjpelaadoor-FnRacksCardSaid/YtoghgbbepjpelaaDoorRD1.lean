/- The contracts of the draws of racks, first part: a drawn rack, one that is changed. -/
import Derived.Test.YtoghgbbepjpelaaDoorARack
import Derived.Test.YtoghgbbepjpelaaDoorSr
import Derived.Test.YtoghgbbepjpelaaDoorAm
import Derived.Test.YtoghgbbepjpelaaDoorApN
namespace Go.Proofs.YtoghgbbepjpelaaDoor
open Go.RowKit
set_option linter.unusedVariables false

/-- A rack in a block of its own. -/
structure RBox (w : World) (b : Nat) (r : Rack) : Prop where
  lt : b < w.heap.size
  c0 : w.cell? ⟨b, 0, none⟩ = some (.int .i64 r.Room)
  c1 : w.cell? ⟨b, 1, none⟩ = some (.int .i64 r.Holds)
  c2 : w.cell? ⟨b, 2, none⟩ = some (.int .i64 r.Since)
  c3 : w.cell? ⟨b, 3, none⟩ = some (.int .i64 r.Needs)
  fz : ∀ o, w.frozen? ⟨b, o, none⟩ = false
theorem RBox.new (W : World) (r : Rack) (t : TypeId) : RBox (W.alloc (.cells #[.int .i64 r.Room, .int .i64 r.Holds, .int .i64 r.Since, .int .i64 r.Needs] t)) W.heap.size r :=
  ⟨by simp, by go_simp, by go_simp, by go_simp, by go_simp, fun o => by go_simp⟩
theorem RBox.below {w w' : World} {b : Nat} {r : Rack} (h : RBox w b r) (hb : Below w.heap.size w w') : RBox w' b r :=
  ⟨Nat.lt_of_lt_of_le h.lt hb.size, (hb.cell (p := ⟨b, _, none⟩) h.lt).trans h.c0, (hb.cell (p := ⟨b, _, none⟩) h.lt).trans h.c1, (hb.cell (p := ⟨b, _, none⟩) h.lt).trans h.c2, (hb.cell (p := ⟨b, _, none⟩) h.lt).trans h.c3, fun o => (hb.frozen (p := ⟨b, o, none⟩) h.lt).trans (h.fz o)⟩
theorem RBox.drew {w w' : World} {b p : Nat} {r : Rack} (h : RBox w b r) (hD : Drew p w w') (hne : b ≠ p) : RBox w' b r :=
  ⟨Nat.lt_of_lt_of_le h.lt hD.size, (hD.cell h.lt hne _).trans h.c0, (hD.cell h.lt hne _).trans h.c1, (hD.cell h.lt hne _).trans h.c2, (hD.cell h.lt hne _).trans h.c3, fun o => (hD.frozen h.lt hne o).trans (h.fz o)⟩
theorem RBox.far {w : World} {b q o : Nat} {r : Rack} (h : RBox w b r) (hne : b ≠ q) (u : Value) : RBox (w.setCell ⟨q, o, none⟩ u) b r :=
  ⟨by have := h.lt; simpa [World.setCell] using this, (World.cell?_setCell_other _ _ _ _ (fun e => hne (congrArg Addr.block e).symm)).trans h.c0, (World.cell?_setCell_other _ _ _ _ (fun e => hne (congrArg Addr.block e).symm)).trans h.c1, (World.cell?_setCell_other _ _ _ _ (fun e => hne (congrArg Addr.block e).symm)).trans h.c2, (World.cell?_setCell_other _ _ _ _ (fun e => hne (congrArg Addr.block e).symm)).trans h.c3, fun o => by rw [World.frozen?_setCell]; exact h.fz o⟩
theorem RBox.setRoom {w : World} {b : Nat} {r : Rack} (h : RBox w b r) (x : Int) : RBox (w.setCell ⟨b, 0, none⟩ (.int .i64 x)) b { r with Room := x } :=
  ⟨by have := h.lt; simpa [World.setCell] using this, World.cell?_setCell_same _ _ _ h.c0, (World.cell?_setCell_other _ _ _ _ (by simp)).trans h.c1, (World.cell?_setCell_other _ _ _ _ (by simp)).trans h.c2, (World.cell?_setCell_other _ _ _ _ (by simp)).trans h.c3, fun o => by rw [World.frozen?_setCell]; exact h.fz o⟩
theorem RBox.setHolds {w : World} {b : Nat} {r : Rack} (h : RBox w b r) (x : Int) : RBox (w.setCell ⟨b, 1, none⟩ (.int .i64 x)) b { r with Holds := x } :=
  ⟨by have := h.lt; simpa [World.setCell] using this, (World.cell?_setCell_other _ _ _ _ (by simp)).trans h.c0, World.cell?_setCell_same _ _ _ h.c1, (World.cell?_setCell_other _ _ _ _ (by simp)).trans h.c2, (World.cell?_setCell_other _ _ _ _ (by simp)).trans h.c3, fun o => by rw [World.frozen?_setCell]; exact h.fz o⟩
theorem RBox.setSince {w : World} {b : Nat} {r : Rack} (h : RBox w b r) (x : Int) : RBox (w.setCell ⟨b, 2, none⟩ (.int .i64 x)) b { r with Since := x } :=
  ⟨by have := h.lt; simpa [World.setCell] using this, (World.cell?_setCell_other _ _ _ _ (by simp)).trans h.c0, (World.cell?_setCell_other _ _ _ _ (by simp)).trans h.c1, World.cell?_setCell_same _ _ _ h.c2, (World.cell?_setCell_other _ _ _ _ (by simp)).trans h.c3, fun o => by rw [World.frozen?_setCell]; exact h.fz o⟩
theorem RBox.setNeeds {w : World} {b : Nat} {r : Rack} (h : RBox w b r) (x : Int) : RBox (w.setCell ⟨b, 3, none⟩ (.int .i64 x)) b { r with Needs := x } :=
  ⟨by have := h.lt; simpa [World.setCell] using this, (World.cell?_setCell_other _ _ _ _ (by simp)).trans h.c0, (World.cell?_setCell_other _ _ _ _ (by simp)).trans h.c1, (World.cell?_setCell_other _ _ _ _ (by simp)).trans h.c2, World.cell?_setCell_same _ _ _ h.c3, fun o => by rw [World.frozen?_setCell]; exact h.fz o⟩

/-- A drawn rack. -/
def NewR (p : Nat) (m : Int) (w : World) (e : Ending) (w' : World) : Prop := ∃ r : Rack, e = .returned (.agg #[.int .i64 r.Room, .int .i64 r.Holds, .int .i64 r.Since, .int .i64 r.Needs]) ∧ Src w' p m ∧ Drew p w w'
set_option maxHeartbeats 2000000 in
theorem newR_any (p : Nat) (m : Int) (w : World) (h : Src w p m) (hm : m ≤ 100000) :
    Calls Tryd.prog 53 #[.pointer (some ⟨p, 0, none⟩)] w (NewR p (m + 12) w) := by
  have hp := h.lt
  go_enter Tryd.func53, Tryd.ntmps53
  go_wp2_with fail
  refine (pick_any p 9 m _ (h.below (by first | (go_grown; done) | (go_split_ands; assumption))) (by omega)).mono ?_; rintro e w1 ⟨x, rfl, ⟨hx0, hx1⟩, hS1, hD1⟩
  have hx2 : x < 9 := by omega
  have hz1 := hD1.size; simp only [World.size_alloc] at hz1
  have RA := Lib.hid ((RBox.new w ⟨0, 0, 0, 0⟩ 43).drew hD1 (by omega))
  have HD1 := Lib.hid ((Drew.of_below (p := p) ((Below.refl w.heap.size w).alloc (Nat.le_refl _) (.cells #[.int .i64 0, .int .i64 0, .int .i64 0, .int .i64 0] 43))).trans hD1)
  have HS1 := Lib.hid hS1
  clear hS1 hx1 hD1
  go_wp2_with fail
  have A1 : Below w1.heap.size w1 (w1.alloc (.cells #[.int .i64 (50 * (1 + x)), .int .i64 0, .int .i64 0, .int .i64 0] 43)) := (Below.refl _ _).alloc (Nat.le_refl _) _
  refine (one_any p 3 (m + 2) _ (HS1.out.below A1) (by omega)).mono ?_; rintro e w2 ⟨t, rfl, hS2, hD2⟩
  have RA2 := Lib.hid ((RA.out.below A1).drew hD2 (by omega))
  have RB2 := Lib.hid ((RBox.new w1 ⟨50 * (1 + x), 0, 0, 0⟩ 43).drew hD2 (by omega))
  have HD2 := Lib.hid ((HD1.out.trans (Drew.of_below A1)).trans hD2)
  have hz2 := hD2.size; simp only [World.size_alloc] at hz2
  have HS2 := Lib.hid hS2
  have hne : w.heap.size ≠ w1.heap.size := by omega
  clear hS2 hD2 RA A1
  obtain ⟨_, a0, a1, a2, a3, af⟩ := RA2.out
  obtain ⟨_, b0, b1, b2, b3, bf⟩ := RB2.out
  have af0 := af 0; have af1 := af 1; have af2 := af 2; have af3 := af 3
  have bf0 := bf 0; have bf1 := bf 1; have bf2 := bf 2; have bf3 := bf 3
  simp only at a0 a1 a2 a3 b0 b1 b2 b3
  clear af bf
  cases t with
  | true =>
    go_wp2_with fail
    refine bodyPost_ret (v := .agg #[.int .i64 (50 * (1 + x)), .int .i64 0, .int .i64 0, .int .i64 0]) (by simp [results, Tryd.results53, go_sem, a0, a1, a2, a3]) rfl ⟨⟨50 * (1 + x), 0, 0, 0⟩, rfl, ?_, ?_⟩
    · exact (HS2.out.mono (by omega)).step (B := w.heap.size) (by go_grown) hp
    · exact HD2.out.step (by go_grown)
  | false =>
    go_wp2_with fail
    refine (pick_any p _ (m + 4) _ (HS2.out.mono (by omega)) (by omega)).mono ?_; rintro e w3 ⟨y, rfl, ⟨hy0, hy1⟩, hS3, hD3⟩
    have hy2 : y < 500 := by omega
    have RA3 := Lib.hid (RA2.out.drew hD3 (by omega))
    have RB3 := Lib.hid ((RB2.out.drew hD3 (by omega)).setHolds (1 + y))
    have RA3' := Lib.hid (RA3.out.far (q := w1.heap.size) (o := 1) hne (.int .i64 (1 + y)))
    have HD3 := Lib.hid (HD2.out.trans hD3)
    have hz3 := hD3.size
    have HS3 := Lib.hid hS3
    obtain ⟨_, e0, e1, e2, e3, ef⟩ := RB2.out.drew hD3 (by omega)
    have ef1 := ef 1
    clear hS3 hD3 hy1 a0 a1 a2 a3 b0 b1 b2 b3 af0 af1 af2 af3 bf0 bf1 bf2 bf3 ef
    go_wp2_with fail
    have S3 : Below w.heap.size w3 (w3.setCell ⟨w1.heap.size, 1, none⟩ (.int .i64 (1 + y))) := (Below.refl w.heap.size w3).setCell (by show w.heap.size ≤ w1.heap.size; omega) _
    refine (pick_any p 12 (m + 6) _ ((HS3.out.step S3 hp).mono (by omega)) (by omega)).mono ?_; rintro e w4 ⟨y4, rfl, ⟨hy40, hy41⟩, hS4, hD4⟩
    have RA4 := Lib.hid (RA3'.out.drew hD4 (by omega))
    have RB4 := Lib.hid ((RB3.out.drew hD4 (by omega)).setSince y4)
    have RA4' := Lib.hid (RA4.out.far (q := w1.heap.size) (o := 2) hne (.int .i64 y4))
    have HD4 := Lib.hid ((HD3.out.step S3).trans hD4)
    have hz4 := hD4.size; simp only [World.setCell, Array.size_modify] at hz4
    have HS4 := Lib.hid hS4
    obtain ⟨_, i0, i1, i2, i3, jf⟩ := RB3.out.drew hD4 (by omega)
    have jf2 := jf 2
    clear hS4 hD4 hy41 e0 e1 e2 e3 ef1 jf S3
    go_wp2_with fail
    have S4 : Below w.heap.size w4 (w4.setCell ⟨w1.heap.size, 2, none⟩ (.int .i64 y4)) := (Below.refl w.heap.size w4).setCell (by show w.heap.size ≤ w1.heap.size; omega) _
    refine (pick_any p 50 (m + 8) _ ((HS4.out.step S4 hp).mono (by omega)) (by omega)).mono ?_; rintro e w5 ⟨y5, rfl, ⟨hy50, hy51⟩, hS5, hD5⟩
    have RA5 := Lib.hid (RA4'.out.drew hD5 (by omega))
    have HD5 := Lib.hid ((HD4.out.step S4).trans hD5)
    have HS5 := Lib.hid hS5
    obtain ⟨_, k0, k1, k2, k3, kf⟩ := RB4.out.drew hD5 (by omega)
    have kf3 := kf 3
    obtain ⟨_, l0, l1, l2, l3, lf⟩ := RA5.out
    have lf0 := lf 0; have lf1 := lf 1; have lf2 := lf 2; have lf3 := lf 3
    simp only at k0 k1 k2 k3 l0 l1 l2 l3
    clear hS5 hD5 hy51 i0 i1 i2 i3 jf2 kf lf S4
    go_wp2_with fail
    refine bodyPost_ret (v := .agg #[.int .i64 (50 * (1 + x)), .int .i64 (1 + y), .int .i64 y4, .int .i64 y5]) (by simp [results, Tryd.results53, go_sem, l0, l1, l2, l3]) rfl ⟨⟨50 * (1 + x), 1 + y, y4, y5⟩, rfl, ?_, ?_⟩
    · exact (HS5.out.mono (by omega)).step (B := w.heap.size) (by go_grown) hp
    · exact HD5.out.step (by go_grown)
end Go.Proofs.YtoghgbbepjpelaaDoor
