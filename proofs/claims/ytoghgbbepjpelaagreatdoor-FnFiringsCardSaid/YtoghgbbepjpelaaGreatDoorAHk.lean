/- Appending one rule to a slice of the call's own, beside another block that is kept. No function is walked here. -/
import Derived.Test.YtoghgbbepjpelaaGreatDoorAHeatRule
import Derived.Maps.AppendAt
namespace Go.Proofs.YtoghgbbepjpelaaGreatDoor
open Go.RowKit
set_option linter.unusedVariables false

/-- One record is appended, beside another block that is kept. -/
theorem wpList_appHeatRule1k (W : World) {ops : Array Oper} {rest : List Oper} {o : Oper} {a : Act} {Q : Exit → Act → World → Prop} (hgd : o.guard = none) (s x : Operand)
    (ho : o.op = .call { callee := .builtin .append, args := #[s, x], argTypes := #[24, 24] })
    (base : Nat) (v : Value) (l : List HeatRule) (hown : OwnHeatRule W base v l) (hs : a.eval s = v)
    (c : HeatRule) (b : Nat) (hx : a.eval x = .slice (some ⟨b, 0, none⟩) 1 1) (hbn : W.heap.size = b)
    (hlen : l.length ≤ 1000000) (hbase : base ≤ W.heap.size)
    (h : ∀ v' w', OwnHeatRule w' base v' (l ++ [c]) → (∀ {B : Nat} {a : World}, B ≤ base → Below B a W → Below B a w') → W.heap.size ≤ w'.heap.size →
      (∀ r, r < W.heap.size → v.ownBlock ≠ some r → (∀ o, w'.cell? ⟨r, o, none⟩ = W.cell? ⟨r, o, none⟩) ∧ v'.ownBlock ≠ some r) → wpList Tryz.prog ops Q rest (a.put o.dst v') w') :
    wpList Tryz.prog ops Q (o :: rest) a (W.alloc (.cells #[.int .i64 c.Upto, .int .i64 c.Rise, .int .i64 c.Hold] 48)) := by
  subst hbn
  have hal : Below W.heap.size W (W.alloc (.cells #[.int .i64 c.Upto, .int .i64 c.Rise, .int .i64 c.Hold] 48)) := (Below.refl _ _).alloc (Nat.le_refl _) _
  obtain ⟨i, hi, hz0, hz1, hz2⟩ := info_parts info_HeatRule1
  obtain ⟨g, cap, rfl, hg, hr⟩ := hown.below hal
  refine wpList_append_own_at (w := W.alloc (.cells #[.int .i64 c.Upto, .int .i64 c.Rise, .int .i64 c.Hold] 48)) hgd s x 24 ho base 48 i _ 3 24 Tryz.underlying24 hi hz0 hz1 hz2 rfl (by decide) _ _ _ hs hr ⟨W.heap.size, 0, none⟩ 1 1 (cellsHeatRule [c]) hx rfl (fun j u hj => ?_) cellsHeatRule_one
    (by unfold maxLen; omega) (by omega) (by simp; omega) fun v' w' hown' hgr hnil hob => h v' w' ?_ ?_ (by have := hgr.size; simp at this; omega) ?_
  · have h2 : j = 0 ∨ j = 1 ∨ j = 2 := by
      have := (List.getElem?_eq_some_iff.1 hj).1
      rw [cellsHeatRule_len] at this; simp at this; omega
    rcases h2 with rfl | rfl | rfl
    · simp only [cellsHeatRule] at hj; cases hj; rw [add_plain]; simp
    · simp only [cellsHeatRule] at hj; cases hj; rw [add_plain]; simp
    · simp only [cellsHeatRule] at hj; cases hj; rw [add_plain]; simp
  · rcases hown'.2 with ⟨hv, _⟩ | ⟨g', cap', cur, hv, hg', _⟩
    · have := (hnil.1 hv).1
      cases this
    · refine ⟨g', cap', by rw [hv, List.length_append]; rfl, hg', ?_⟩
      rw [hv] at hown'
      rw [List.length_append, cellsHeatRule_append]
      exact hown'
  · intro B a hB hb
    refine (hb.alloc (by omega) _).grown hgr (by simp; omega) (fun k hk => ?_)
    simp [Value.ownBlock] at hk
    omega
  · intro r hrl hne
    refine ⟨fun o => ?_, ?_⟩
    · have hb := hgr.block r (by simp; omega) (fun e => hne e.symm)
      rw [World.cell?_of_block (a := ⟨r, o, none⟩) hb]
      exact World.cell?_of_block (a := ⟨r, o, none⟩) (heap_alloc_old W _ hrl)
    · rcases hob with e | e
      · rw [e]; exact hne
      · rw [e]; intro h; simp only [Option.some.injEq, World.size_alloc] at h; omega
end Go.Proofs.YtoghgbbepjpelaaGreatDoor
