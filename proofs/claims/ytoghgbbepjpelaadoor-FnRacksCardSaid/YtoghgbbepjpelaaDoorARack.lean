/- A slice of records of type Rack that a call appends to. No function is walked here. -/
import Derived.Test.YtoghgbbepjpelaaDoorORack
import Derived.Test.YtoghgbbepjpelaaDoorLs
import Derived.Test.YtoghgbbepjpelaaDoorCp
namespace Go.Proofs.YtoghgbbepjpelaaDoor
open Go.RowKit
set_option linter.unusedVariables false

/-- The cells of some records. -/
def cellsRack : List Rack → List Value
  | [] => []
  | c :: l => .int .i64 c.Room :: .int .i64 c.Holds :: .int .i64 c.Since :: .int .i64 c.Needs :: cellsRack l
theorem cellsRack_len : ∀ l : List Rack, (cellsRack l).length = l.length * 4
  | [] => rfl
  | c :: l => by simp only [cellsRack, List.length_cons, cellsRack_len l]; omega
theorem cellsRack_append : ∀ l m : List Rack, cellsRack (l ++ m) = cellsRack l ++ cellsRack m
  | [], _ => rfl
  | c :: l, m => by rw [List.cons_append, cellsRack, cellsRack, cellsRack_append l m]; rfl
theorem cellsRack_get : ∀ {l : List Rack} {j : Nat}, j < l.length → (cellsRack l)[j * 4]? = some (.int .i64 (nt l j).Room) ∧ (cellsRack l)[j * 4 + 1]? = some (.int .i64 (nt l j).Holds) ∧ (cellsRack l)[j * 4 + 2]? = some (.int .i64 (nt l j).Since) ∧ (cellsRack l)[j * 4 + 3]? = some (.int .i64 (nt l j).Needs)
  | c :: l, 0, _ => ⟨rfl, rfl, rfl, rfl⟩
  | c :: l, j + 1, h => by
    have h' : j < l.length := by rw [List.length_cons] at h; omega
    have ih := cellsRack_get h'
    have e : ∀ i, (cellsRack (c :: l))[(j + 1) * 4 + i]? = (cellsRack l)[j * 4 + i]? := fun i => by
      rw [show (j + 1) * 4 + i = j * 4 + i + 1 + 1 + 1 + 1 by omega, cellsRack]
      simp only [List.getElem?_cons_succ]
    have hn : nt (c :: l) (j + 1) = nt l j := by simp [nt]
    rw [hn]
    have e0 := e 0
    simp only [Nat.add_zero] at e0
    rw [e0, e 1, e 2, e 3]
    exact ih
theorem cellsRack_one {l : List Rack} : ∀ u ∈ cellsRack l, u.oneCell' = true := by
  induction l with
  | nil => intro u h; cases h
  | cons c l ih =>
    intro u h
    simp only [cellsRack, List.mem_cons] at h
    rcases h with rfl | rfl | rfl | rfl | h
    · rfl
    · rfl
    · rfl
    · rfl
    · exact ih u h

/-- A slice of the call's own, not nil, that holds some records. -/
def OwnRack (w : World) (base : Nat) (v : Value) (l : List Rack) : Prop :=
  ∃ g cap, v = .slice (some ⟨g, 0, none⟩) l.length cap ∧ base ≤ g ∧ w.ownsRow base 43 4 (.slice (some ⟨g, 0, none⟩) l.length cap) l.length (cellsRack l)
theorem OwnRack.made' {w : World} {base b : Nat} (hb : base ≤ w.heap.size) (hw : w.heap.size = b) : OwnRack (w.alloc (.cells #[] 43)) base (.slice (some ⟨b, 0, none⟩) 0 0) [] := by
  subst hw
  exact ⟨_, _, rfl, hb, World.ownsRow_made w #[] 0 hb (by simp [maxLen]) (by simp)⟩
theorem OwnRack.below {w w' : World} {base : Nat} {v : Value} {l : List Rack} (h : OwnRack w base v l) (hb : Below w.heap.size w w') : OwnRack w' base v l := by
  obtain ⟨g, cap, rfl, hg, ho⟩ := h
  exact ⟨g, cap, rfl, hg, ho.kept (row := none) ⟨hb.os, hb.tape, hb.output, hb.size, fun k hk _ => hb.block k hk⟩ (.inr (by simp [Value.ownBlock]))⟩
/-- Another block is written. -/
theorem OwnRack.grown {w w' : World} {base p : Nat} {v : Value} {l : List Rack} (h : OwnRack w base v l) (hb : w.grownBy w' (some p)) (hp : p < base) : OwnRack w' base v l := by
  obtain ⟨g, cap, rfl, hg, ho⟩ := h
  exact ⟨g, cap, rfl, hg, ho.kept hb (.inr (by simp [Value.ownBlock]; omega))⟩
theorem OwnRack.row {w : World} {base : Nat} {v : Value} {l : List Rack} (h : OwnRack w base v l) : ∃ g cap, v = .slice (some ⟨g, 0, none⟩) l.length cap ∧ base ≤ g ∧ l.length ≤ cap ∧ RowFRack w g l.length (nt l) := by
  obtain ⟨g, cap, rfl, hg, ho⟩ := h
  have hcap : l.length ≤ cap := by
    rcases ho.2 with ⟨h, _⟩ | ⟨g', cap', cur, h, _, _, hc, _⟩
    · cases h
    · simp only [Value.slice.injEq] at h
      omega
  refine ⟨g, cap, rfl, hg, hcap, (ho.lt g (by simp [Value.ownBlock])).2, fun j hj => ?_, fun o => ho.frozenAt o⟩
  obtain ⟨h0, h1, h2, h3⟩ := cellsRack_get hj
  exact ⟨by rw [ho.cellAt _ (by omega), h0], by rw [ho.cellAt _ (by omega), h1], by rw [ho.cellAt _ (by omega), h2], by rw [ho.cellAt _ (by omega), h3]⟩
theorem info_Rack1 : (Tryd.prog.info? 43).map (fun i => (i.zero, i.size, i.bytes)) = some (some (.agg #[.int .i64 0, .int .i64 0, .int .i64 0, .int .i64 0]), 4, 32) := by kernel_rfl

/-- One record is appended. -/
theorem wpList_appRack1 (W : World) {ops : Array Oper} {rest : List Oper} {o : Oper} {a : Act} {Q : Exit → Act → World → Prop} (hgd : o.guard = none) (s x : Operand)
    (ho : o.op = .call { callee := .builtin .append, args := #[s, x], argTypes := #[31, 31] })
    (base : Nat) (v : Value) (l : List Rack) (hown : OwnRack W base v l) (hs : a.eval s = v)
    (c : Rack) (b : Nat) (hx : a.eval x = .slice (some ⟨b, 0, none⟩) 1 1) (hbn : W.heap.size = b)
    (hlen : l.length ≤ 1000000) (hbase : base ≤ W.heap.size)
    (h : ∀ v' w', OwnRack w' base v' (l ++ [c]) → (∀ {B : Nat} {a : World}, B ≤ base → Below B a W → Below B a w') → W.heap.size ≤ w'.heap.size → wpList Tryd.prog ops Q rest (a.put o.dst v') w') :
    wpList Tryd.prog ops Q (o :: rest) a (W.alloc (.cells #[.int .i64 c.Room, .int .i64 c.Holds, .int .i64 c.Since, .int .i64 c.Needs] 43)) := by
  subst hbn
  have hal : Below W.heap.size W (W.alloc (.cells #[.int .i64 c.Room, .int .i64 c.Holds, .int .i64 c.Since, .int .i64 c.Needs] 43)) := (Below.refl _ _).alloc (Nat.le_refl _) _
  obtain ⟨i, hi, hz0, hz1, hz2⟩ := info_parts info_Rack1
  obtain ⟨g, cap, rfl, hg, hr⟩ := hown.below hal
  refine wpList_append_own _ hgd s x 31 ho base 43 i _ 4 32 Tryd.underlying31 hi hz0 hz1 hz2 rfl (by decide) _ _ _ hs hr ⟨W.heap.size, 0, none⟩ 1 1 (cellsRack [c]) hx rfl (fun j u hj => ?_) cellsRack_one
    (by unfold maxLen; omega) (by omega) (by simp; omega) fun v' w' hown' hgr hnil => h v' w' ?_ ?_ (by have := hgr.size; simp at this; omega)
  · have h2 : j = 0 ∨ j = 1 ∨ j = 2 ∨ j = 3 := by
      have := (List.getElem?_eq_some_iff.1 hj).1
      rw [cellsRack_len] at this; simp at this; omega
    rcases h2 with rfl | rfl | rfl | rfl
    · simp only [cellsRack] at hj; cases hj; rw [add_plain]; simp
    · simp only [cellsRack] at hj; cases hj; rw [add_plain]; simp
    · simp only [cellsRack] at hj; cases hj; rw [add_plain]; simp
    · simp only [cellsRack] at hj; cases hj; rw [add_plain]; simp
  · rcases hown'.2 with ⟨hv, _⟩ | ⟨g', cap', cur, hv, hg', _⟩
    · have := (hnil.1 hv).1
      cases this
    · refine ⟨g', cap', by rw [hv, List.length_append]; rfl, hg', ?_⟩
      rw [hv] at hown'
      rw [List.length_append, cellsRack_append]
      exact hown'
  · intro B a hB hb
    refine (hb.alloc (by omega) _).grown hgr (by simp; omega) (fun k hk => ?_)
    simp [Value.ownBlock] at hk
    omega
end Go.Proofs.YtoghgbbepjpelaaDoor
