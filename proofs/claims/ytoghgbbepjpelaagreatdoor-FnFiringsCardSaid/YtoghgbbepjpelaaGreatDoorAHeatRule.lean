/- A slice of records of type HeatRule that a call appends to. No function is walked here. -/
import Derived.Test.YtoghgbbepjpelaaGreatDoorOHeatRule
import Derived.Test.YtoghgbbepjpelaaGreatDoorLs
import Derived.Test.YtoghgbbepjpelaaGreatDoorCp
namespace Go.Proofs.YtoghgbbepjpelaaGreatDoor
open Go.RowKit
set_option linter.unusedVariables false

/-- The cells of some records. -/
def cellsHeatRule : List HeatRule → List Value
  | [] => []
  | c :: l => .int .i64 c.Upto :: .int .i64 c.Rise :: .int .i64 c.Hold :: cellsHeatRule l
theorem cellsHeatRule_len : ∀ l : List HeatRule, (cellsHeatRule l).length = l.length * 3
  | [] => rfl
  | c :: l => by simp only [cellsHeatRule, List.length_cons, cellsHeatRule_len l]; omega
theorem cellsHeatRule_append : ∀ l m : List HeatRule, cellsHeatRule (l ++ m) = cellsHeatRule l ++ cellsHeatRule m
  | [], _ => rfl
  | c :: l, m => by rw [List.cons_append, cellsHeatRule, cellsHeatRule, cellsHeatRule_append l m]; rfl
theorem cellsHeatRule_get : ∀ {l : List HeatRule} {j : Nat}, j < l.length → (cellsHeatRule l)[j * 3]? = some (.int .i64 (nt l j).Upto) ∧ (cellsHeatRule l)[j * 3 + 1]? = some (.int .i64 (nt l j).Rise) ∧ (cellsHeatRule l)[j * 3 + 2]? = some (.int .i64 (nt l j).Hold)
  | c :: l, 0, _ => ⟨rfl, rfl, rfl⟩
  | c :: l, j + 1, h => by
    have h' : j < l.length := by rw [List.length_cons] at h; omega
    have ih := cellsHeatRule_get h'
    have e : ∀ i, (cellsHeatRule (c :: l))[(j + 1) * 3 + i]? = (cellsHeatRule l)[j * 3 + i]? := fun i => by
      rw [show (j + 1) * 3 + i = j * 3 + i + 1 + 1 + 1 by omega, cellsHeatRule]
      simp only [List.getElem?_cons_succ]
    have hn : nt (c :: l) (j + 1) = nt l j := by simp [nt]
    rw [hn]
    have e0 := e 0
    simp only [Nat.add_zero] at e0
    rw [e0, e 1, e 2]
    exact ih
theorem cellsHeatRule_one {l : List HeatRule} : ∀ u ∈ cellsHeatRule l, u.oneCell' = true := by
  induction l with
  | nil => intro u h; cases h
  | cons c l ih =>
    intro u h
    simp only [cellsHeatRule, List.mem_cons] at h
    rcases h with rfl | rfl | rfl | h
    · rfl
    · rfl
    · rfl
    · exact ih u h

/-- A slice of the call's own, not nil, that holds some records. -/
def OwnHeatRule (w : World) (base : Nat) (v : Value) (l : List HeatRule) : Prop :=
  ∃ g cap, v = .slice (some ⟨g, 0, none⟩) l.length cap ∧ base ≤ g ∧ w.ownsRow base 48 3 (.slice (some ⟨g, 0, none⟩) l.length cap) l.length (cellsHeatRule l)
theorem OwnHeatRule.made' {w : World} {base b : Nat} (hb : base ≤ w.heap.size) (hw : w.heap.size = b) : OwnHeatRule (w.alloc (.cells #[] 48)) base (.slice (some ⟨b, 0, none⟩) 0 0) [] := by
  subst hw
  exact ⟨_, _, rfl, hb, World.ownsRow_made w #[] 0 hb (by simp [maxLen]) (by simp)⟩
theorem OwnHeatRule.below {w w' : World} {base : Nat} {v : Value} {l : List HeatRule} (h : OwnHeatRule w base v l) (hb : Below w.heap.size w w') : OwnHeatRule w' base v l := by
  obtain ⟨g, cap, rfl, hg, ho⟩ := h
  exact ⟨g, cap, rfl, hg, ho.kept (row := none) ⟨hb.os, hb.tape, hb.output, hb.size, fun k hk _ => hb.block k hk⟩ (.inr (by simp [Value.ownBlock]))⟩
/-- Another block is written. -/
theorem OwnHeatRule.grown {w w' : World} {base p : Nat} {v : Value} {l : List HeatRule} (h : OwnHeatRule w base v l) (hb : w.grownBy w' (some p)) (hp : p < base) : OwnHeatRule w' base v l := by
  obtain ⟨g, cap, rfl, hg, ho⟩ := h
  exact ⟨g, cap, rfl, hg, ho.kept hb (.inr (by simp [Value.ownBlock]; omega))⟩
theorem OwnHeatRule.row {w : World} {base : Nat} {v : Value} {l : List HeatRule} (h : OwnHeatRule w base v l) : ∃ g cap, v = .slice (some ⟨g, 0, none⟩) l.length cap ∧ base ≤ g ∧ l.length ≤ cap ∧ RowFHeatRule w g l.length (nt l) := by
  obtain ⟨g, cap, rfl, hg, ho⟩ := h
  have hcap : l.length ≤ cap := by
    rcases ho.2 with ⟨h, _⟩ | ⟨g', cap', cur, h, _, _, hc, _⟩
    · cases h
    · simp only [Value.slice.injEq] at h
      omega
  refine ⟨g, cap, rfl, hg, hcap, (ho.lt g (by simp [Value.ownBlock])).2, fun j hj => ?_, fun o => ho.frozenAt o⟩
  obtain ⟨h0, h1, h2⟩ := cellsHeatRule_get hj
  exact ⟨by rw [ho.cellAt _ (by omega), h0], by rw [ho.cellAt _ (by omega), h1], by rw [ho.cellAt _ (by omega), h2]⟩
theorem info_HeatRule1 : (Tryz.prog.info? 48).map (fun i => (i.zero, i.size, i.bytes)) = some (some (.agg #[.int .i64 0, .int .i64 0, .int .i64 0]), 3, 24) := by kernel_rfl

/-- One record is appended. -/
theorem wpList_appHeatRule1 (W : World) {ops : Array Oper} {rest : List Oper} {o : Oper} {a : Act} {Q : Exit → Act → World → Prop} (hgd : o.guard = none) (s x : Operand)
    (ho : o.op = .call { callee := .builtin .append, args := #[s, x], argTypes := #[24, 24] })
    (base : Nat) (v : Value) (l : List HeatRule) (hown : OwnHeatRule W base v l) (hs : a.eval s = v)
    (c : HeatRule) (b : Nat) (hx : a.eval x = .slice (some ⟨b, 0, none⟩) 1 1) (hbn : W.heap.size = b)
    (hlen : l.length ≤ 1000000) (hbase : base ≤ W.heap.size)
    (h : ∀ v' w', OwnHeatRule w' base v' (l ++ [c]) → (∀ {B : Nat} {a : World}, B ≤ base → Below B a W → Below B a w') → W.heap.size ≤ w'.heap.size → wpList Tryz.prog ops Q rest (a.put o.dst v') w') :
    wpList Tryz.prog ops Q (o :: rest) a (W.alloc (.cells #[.int .i64 c.Upto, .int .i64 c.Rise, .int .i64 c.Hold] 48)) := by
  subst hbn
  have hal : Below W.heap.size W (W.alloc (.cells #[.int .i64 c.Upto, .int .i64 c.Rise, .int .i64 c.Hold] 48)) := (Below.refl _ _).alloc (Nat.le_refl _) _
  obtain ⟨i, hi, hz0, hz1, hz2⟩ := info_parts info_HeatRule1
  obtain ⟨g, cap, rfl, hg, hr⟩ := hown.below hal
  refine wpList_append_own _ hgd s x 24 ho base 48 i _ 3 24 Tryz.underlying24 hi hz0 hz1 hz2 rfl (by decide) _ _ _ hs hr ⟨W.heap.size, 0, none⟩ 1 1 (cellsHeatRule [c]) hx rfl (fun j u hj => ?_) cellsHeatRule_one
    (by unfold maxLen; omega) (by omega) (by simp; omega) fun v' w' hown' hgr hnil => h v' w' ?_ ?_ (by have := hgr.size; simp at this; omega)
  · have h2 : j = 0 ∨ j = 1 ∨ j = 2 := by
      have := (List.getElem?_eq_some_iff.1 hj).1
      rw [cellsHeatRule_len] at this; simp at this; omega
    rcases h2 with rfl | rfl | rfl
    · simp only [cellsHeatRule] at hj; cases hj; rw [add_plain]; simp
    · simp only [cellsHeatRule] at hj; cases hj; rw [add_plain]; simp
    · simp only [cellsHeatRule] at hj; cases hj; rw [add_plain]; simp
  · rcases hown'.2 with ⟨hv, _⟩ | ⟨g', cap', cur, hv, hg', _⟩
    · have := (hnil.1 hv).1
      cases this
    · refine ⟨g', cap', by rw [hv, List.length_append]; rfl, hg', ?_⟩
      rw [hv] at hown'
      rw [List.length_append, cellsHeatRule_append]
      exact hown'
  · intro B a hB hb
    refine (hb.alloc (by omega) _).grown hgr (by simp; omega) (fun k hk => ?_)
    simp [Value.ownBlock] at hk
    omega
end Go.Proofs.YtoghgbbepjpelaaGreatDoor
