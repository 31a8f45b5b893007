/- A slice of causes that lies in a variable of the heap, and that a call appends to. No function is walked here. -/
import Derived.Test.YtmapjepdcbpalaaOC
import Derived.Deep.AppendLies
namespace Go.Proofs.Ytmapjepdcbpalaa
open Go.RowKit
set_option linter.unusedVariables false

/-- A slice of the call's own whose block is not the variable's. -/
def OwnCX (w : World) (base X : Nat) (v : Value) (l : List Cause) : Prop := OwnC w base v l ∧ v.ownBlock ≠ some X
theorem OwnCX.below {w w' : World} {base X : Nat} {v : Value} {l : List Cause} (h : OwnCX w base X v l) (hb : Below w.heap.size w w') : OwnCX w' base X v l := ⟨h.1.below hb, h.2⟩
theorem OwnCX.set {w : World} {base X : Nat} {v : Value} {l : List Cause} (h : OwnCX w base X v l) (u : Value) : OwnCX (w.setCell ⟨X, 0, none⟩ u) base X v l := by
  obtain ⟨⟨g, cap, rfl, hg, ho⟩, hne⟩ := h
  exact ⟨⟨g, cap, rfl, hg, ho.kept (row := some X) (grown_set (World.grownBy.refl _ _) 0 u) (.inr hne)⟩, hne⟩
set_option maxHeartbeats 1000000 in
/-- One cause is appended to a slice that lies in a variable. -/
theorem wpList_appC1X (W : World) {ops : Array Oper} {rest : List Oper} {o : Oper} {a : Act} {Q : Exit → Act → World → Prop} (hgd : o.guard = none) (s x : Operand)
    (ho : o.op = .call { callee := .builtin .append, args := #[s, x], argTypes := #[31, 31] })
    (base X : Nat) (v : Value) (l : List Cause) (hown : OwnCX W base X v l) (hs : a.eval s = v)
    (k n : Int) (b : Nat) (hx : a.eval x = .slice (some ⟨b, 0, none⟩) 1 1) (hbn : W.heap.size = b)
    (hlen : l.length ≤ 1000000) (hbase : base ≤ W.heap.size) (hX : X < W.heap.size)
    (h : ∀ v' w', OwnCX w' base X v' (l ++ [⟨k, n⟩]) → (∀ {B : Nat} {a : World}, B ≤ base → Below B a W → Below B a w') → W.heap.size ≤ w'.heap.size → w'.cell? ⟨X, 0, none⟩ = W.cell? ⟨X, 0, none⟩ → w'.frozen? ⟨X, 0, none⟩ = W.frozen? ⟨X, 0, none⟩ → wpList Try.prog ops Q rest (a.put o.dst v') w') :
    wpList Try.prog ops Q (o :: rest) a (W.alloc (.cells #[.int .i64 k, .int .i64 n] 38)) := by
  subst hbn
  have hal : Below W.heap.size W (W.alloc (.cells #[.int .i64 k, .int .i64 n] 38)) := (Below.refl _ _).alloc (Nat.le_refl _) _
  obtain ⟨i, hi, hz0, hz1, hz2⟩ := info_parts info_Cause'
  obtain ⟨⟨g, cap, rfl, hg, hr⟩, hne⟩ := hown
  have hr' := hr.kept (w' := W.alloc (.cells #[.int .i64 k, .int .i64 n] 38)) (row := none) ⟨hal.os, hal.tape, hal.output, hal.size, fun k hk _ => hal.block k hk⟩ (.inr (by simp [Value.ownBlock]))
  refine wpList_append_lies _ hgd s x 31 ho base 38 i _ 2 16 Try.underlying31 hi hz0 hz1 hz2 rfl (by decide) _ _ _ hs hr' ⟨W.heap.size, 0, none⟩ 1 1 (cellsC [⟨k, n⟩]) hx rfl (fun j u hj => ?_) cellsC_one
    (by omega) (by unfold maxLen; omega) (by omega) (by simp; omega) _ rfl fun g' cap' w' hown' hgr hat hlt => h _ w' ?_ ?_ ?_ ?_ ?_
  · have h2 : j = 0 ∨ j = 1 := by
      have := (List.getElem?_eq_some_iff.1 hj).1
      rw [cellsC_len] at this; simp at this; omega
    rcases h2 with rfl | rfl
    · simp only [cellsC] at hj; cases hj; rw [add_plain]; simp
    · simp only [cellsC] at hj; cases hj; rw [add_plain]; simp
  · have hg' : base ≤ g' := by
      rcases hat with h | h
      · simp [Value.ownBlock] at h; omega
      · subst h; simp; omega
    have hgX : g' ≠ X := by
      rcases hat with h | h
      · rw [h] at hne; exact fun e => hne (by rw [e])
      · subst h; simp; omega
    refine ⟨⟨g', cap', by simp, hg', ?_⟩, by simpa [Value.ownBlock] using hgX⟩
    rw [List.length_append, cellsC_append]; exact hown'
  · intro B a hB hb
    refine (hb.alloc (by omega) _).grown hgr (by simp; omega) (fun k hk => ?_)
    simp [Value.ownBlock] at hk
    omega
  · have := hgr.size
    simp at this; omega
  · exact (World.cell?_of_block (hgr.block X (by simp; omega) (fun e => hne e.symm))).trans (hal.cell (p := ⟨X, 0, none⟩) hX)
  · have h1 := hgr.block X (by simp; omega) (fun e => hne e.symm)
    refine Eq.trans ?_ (hal.frozen (p := ⟨X, 0, none⟩) hX)
    simp only [World.frozen?, h1]
end Go.Proofs.Ytmapjepdcbpalaa
