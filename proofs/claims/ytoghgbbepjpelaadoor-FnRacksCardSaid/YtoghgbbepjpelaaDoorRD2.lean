/- The contracts of the draws of racks, second part: racks, racks that are bent, weather. -/
import Derived.Test.YtoghgbbepjpelaaDoorRD1
import Derived.Test.YtoghgbbepjpelaaDoorAp3
namespace Go.Proofs.YtoghgbbepjpelaaDoor
open Go.RowKit
set_option linter.unusedVariables false

/-- What a call keeps that reads the source p and writes block g. -/
structure Drew2 (p g : Nat) (w w' : World) : Prop where
  os : w'.os = w.os
  tape : w'.tape = w.tape
  output : w'.output = w.output
  size : w.heap.size ≤ w'.heap.size
  block : ∀ i, i < w.heap.size → i ≠ p → i ≠ g → w'.heap[i]? = w.heap[i]?
theorem Drew2.of {p g : Nat} {w w' : World} (h : Drew p w w') : Drew2 p g w w' := ⟨h.os, h.tape, h.output, h.size, fun i hi hp _ => h.block i hi (fun e => hp (by simpa using e))⟩
theorem Drew2.set {p g o : Nat} {w w' : World} (h : Drew p w w') (u : Value) : Drew2 p g w (w'.setCell ⟨g, o, none⟩ u) :=
  ⟨h.os, h.tape, h.output, by have := h.size; simpa [World.setCell] using this, fun i hi hp hg => (Below.heap_setCell w' ⟨g, o, none⟩ u i (fun e => hg e)).trans (h.block i hi (fun e => hp (by simpa using e)))⟩
theorem Drew2.drew {p g : Nat} {w0 w w' : World} (h : Drew p w0 w) (k : Drew2 p g w w') (hg : w0.heap.size ≤ g) : Drew p w0 w' :=
  ⟨k.os.trans h.os, k.tape.trans h.tape, k.output.trans h.output, Nat.le_trans h.size k.size, fun i hi hne => (k.block i (Nat.lt_of_lt_of_le hi h.size) (fun e => hne (by rw [e])) (by omega)).trans (h.block i hi hne)⟩

/-- One rack of a row has been changed. -/
def SpoilC (p g n : Nat) (m : Int) (w : World) (e : Ending) (w' : World) : Prop := ∃ f : Nat → Rack, e = .returned (.tuple #[]) ∧ RowFRack w' g n f ∧ Src w' p m ∧ Drew2 p g w w'
set_option maxHeartbeats 4000000 in
theorem spoil_any (p g n k : Nat) (m : Int) (f : Nat → Rack) (w : World) (h : Src w p m) (hm : m ≤ 100000) (hR : RowFRack w g n f) (hk : k < n) (hpg : p < g) :
    Calls Tryd.prog 54 #[.pointer (some ⟨p, 0, none⟩), .pointer (some ⟨g, k * 4, none⟩)] w (SpoilC p g n (m + 6) w) := by
  have HR := Lib.hid hR; clear hR
  have hgp : g ≠ p := by omega
  go_enter Tryd.func54, Tryd.ntmps54
  go_wp2_with fail
  refine (pick_any p 4 m _ h (by omega)).mono ?_; rintro e w1 ⟨x, rfl, ⟨hx0, hx1⟩, hS1, hD1⟩
  have HR1 := Lib.hid (HR.out.grownF hD1 hgp)
  have HS1 := Lib.hid hS1; have HD1 := Lib.hid hD1
  have hc : x = 0 ∨ x = 1 ∨ x = 2 ∨ x = 3 := by omega
  clear hS1 hD1 hx0 hx1 HR h
  rcases hc with rfl | rfl | rfl | rfl
  · go_wp2_with fail
    refine (among_lit p (m + 2) _ [-1, 0, 1, 2000, 2001] 2 HS1.out (by omega) (by simp) (by simp)).mono ?_; rintro e w2 ⟨v, rfl, _, hS2, hD2⟩
    have HR2 := Lib.hid (HR1.out.grownF hD2 hgp)
    have HD2 := Lib.hid (HD1.out.trans hD2)
    have HS2 := Lib.hid hS2
    obtain ⟨q0, q1, q2, q3⟩ := HR2.out.cell k hk
    have qf := HR2.out.frozen (k * 4)
    clear hS2 hD2
    go_wp2_with fail
    refine bodyPost_ret (v := .tuple #[]) (by simp [results, Tryd.results54, go_sem]) rfl ?_
    exact ⟨_, rfl, HR2.out.setRoom hk v, (HS2.out.mono (by omega)).step (B := g) ((Below.refl g w2).setCell (Nat.le_refl g) _) hpg, Drew2.set HD2.out _⟩
  · go_wp2_with fail
    obtain ⟨q0, q1, q2, q3⟩ := HR1.out.cell k hk
    have qf := HR1.out.frozen (k * 4 + 1)
    have hgl := HR1.out.lt
    go_region_with ((go_at_call 45; refine (among_litD p (m + 2) _ [-1, 0, (f k).Room, IntKind.i64.wrap ((f k).Room + 1), -9223372036854775808] 2 HS1.out (by omega) (by simp) (by simp)).mono ?_; rintro e w2 ⟨v, rfl, _, hS2, hD2⟩; have HR2 := Lib.hid (HR1.out.grownF hD2 hgp); have HD2 := Lib.hid (HD1.out.trans hD2); have HS2 := Lib.hid hS2; obtain ⟨r0, r1, r2, r3⟩ := HR2.out.cell k hk; have rf := HR2.out.frozen (k * 4 + 1); clear hS2 hD2))
    all_goals
      go_wp2_with fail
      refine bodyPost_ret (v := .tuple #[]) (by simp [results, Tryd.results54, go_sem]) rfl ?_
      exact ⟨_, rfl, HR2.out.setHolds hk v, (HS2.out.mono (by omega)).step (B := g) ((Below.refl g w2).setCell (Nat.le_refl g) _) hpg, Drew2.set HD2.out _⟩
  · go_wp2_with fail
    refine (among_lit p (m + 2) _ [-1, 0, 60, 61] 2 HS1.out (by omega) (by simp) (by simp)).mono ?_; rintro e w2 ⟨v, rfl, _, hS2, hD2⟩
    have HR2 := Lib.hid (HR1.out.grownF hD2 hgp)
    have HD2 := Lib.hid (HD1.out.trans hD2)
    have HS2 := Lib.hid hS2
    obtain ⟨q0, q1, q2, q3⟩ := HR2.out.cell k hk
    have qf := HR2.out.frozen (k * 4 + 2)
    clear hS2 hD2
    go_wp2_with fail
    refine bodyPost_ret (v := .tuple #[]) (by simp [results, Tryd.results54, go_sem]) rfl ?_
    exact ⟨_, rfl, HR2.out.setSince hk v, (HS2.out.mono (by omega)).step (B := g) ((Below.refl g w2).setCell (Nat.le_refl g) _) hpg, Drew2.set HD2.out _⟩
  · go_wp2_with fail
    refine (among_lit p (m + 2) _ [-1, 0, 1000, 1001] 2 HS1.out (by omega) (by simp) (by simp)).mono ?_; rintro e w2 ⟨v, rfl, _, hS2, hD2⟩
    have HR2 := Lib.hid (HR1.out.grownF hD2 hgp)
    have HD2 := Lib.hid (HD1.out.trans hD2)
    have HS2 := Lib.hid hS2
    obtain ⟨q0, q1, q2, q3⟩ := HR2.out.cell k hk
    have qf := HR2.out.frozen (k * 4 + 3)
    clear hS2 hD2
    go_wp2_with fail
    refine bodyPost_ret (v := .tuple #[]) (by simp [results, Tryd.results54, go_sem]) rfl ?_
    exact ⟨_, rfl, HR2.out.setNeeds hk v, (HS2.out.mono (by omega)).step (B := g) ((Below.refl g w2).setCell (Nat.le_refl g) _) hpg, Drew2.set HD2.out _⟩
end Go.Proofs.YtoghgbbepjpelaaDoor
