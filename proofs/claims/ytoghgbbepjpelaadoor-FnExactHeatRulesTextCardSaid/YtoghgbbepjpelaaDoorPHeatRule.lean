/- An argument that is a slice of records of type HeatRule, opened. -/
import Derived.Test.YtoghgbbepjpelaaDoorRHeatRule
import Derived.Test.YtoghgbbepjpelaaDoorFq
namespace Go.Proofs.YtoghgbbepjpelaaDoor
open Go.ChangeShapes Go.WideShapes Go.ChangeAt Go.RowKit Go.Joins Go.Deep
set_option linter.unusedVariables false

theorem param_HeatRule {H : Type} {enc : TypeId × Value → H} {w : World} {base : Nat} {spare : Nat → Bool} {held : Bool} {A : Option Addr} {n c : Nat} {d : DataW H} {p : List MemPlace}
    (h : DataW.Trod enc Tryd.prog w base spare held 22 (.slice A n c) d p) : ∃ xs, HeatRuleRaw w A n xs := by
  obtain ⟨hm, hs⟩ := slice_recs Tryd.underlying22 Tryd.underlying60 (by kernel_rfl) (by kernel_rfl) h
  have hm' : n ≤ 9223372036854775807 := by simpa [maxLen] using hm
  rcases Nat.eq_zero_or_pos n with rfl | hn
  · exact ⟨[], rfl, hm', fun h => absurd h (by omega)⟩
  · obtain ⟨⟨b, off, spot⟩, rfl, hc⟩ := hs hn
    obtain ⟨v, _, _, h0, _⟩ := hc 0 hn 0 _ rfl
    have hspot : spot = none := by simpa [Addr.add] using World.cell?_spot h0
    subst hspot
    have hb : b < w.heap.size := by
      rw [add_none b off _ none rfl] at h0
      exact World.block_lt_of_cell? w _ h0
    have hone : ∀ i, i < n → ∃ r : HeatRule, r.lies w b (off + i * 3) := fun i hi => by
      obtain ⟨u0, y0, m0, e0, g0⟩ := hc i hi 0 _ rfl
      obtain ⟨z0, hz0, _⟩ := DataW.trod_int Tryd.underlying2 g0
      simp only [List.cons.injEq, and_true] at hz0
      subst hz0
      rw [add_none b off _ none rfl] at e0
      obtain ⟨u1, y1, m1, e1, g1⟩ := hc i hi 1 _ rfl
      obtain ⟨z1, hz1, _⟩ := DataW.trod_int Tryd.underlying2 g1
      simp only [List.cons.injEq, and_true] at hz1
      subst hz1
      rw [add_none b off _ none rfl] at e1
      obtain ⟨u2, y2, m2, e2, g2⟩ := hc i hi 2 _ rfl
      obtain ⟨z2, hz2, _⟩ := DataW.trod_int Tryd.underlying2 g2
      simp only [List.cons.injEq, and_true] at hz2
      subst hz2
      rw [add_none b off _ none rfl] at e2
      exact ⟨⟨z0, z1, z2⟩, e0, e1, e2⟩
    obtain ⟨g, hg⟩ := choose_lt hone
    refine ⟨(List.range n).map g, by simp, hm', fun _ => ⟨b, off, rfl, hb, fun j hj => ?_⟩⟩
    have e : nt ((List.range n).map g) j = g j := by rw [nt_lt (by simpa using hj)]; simp
    rw [e]
    exact hg j hj
end Go.Proofs.YtoghgbbepjpelaaDoor
