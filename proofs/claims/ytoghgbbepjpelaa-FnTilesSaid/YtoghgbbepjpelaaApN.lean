/- Appending one element to a slice that the call itself made, or that is nil yet. No function is named here. -/
import Derived.Test.YtoghgbbepjpelaaAp
import Derived.Deep.AppendLies
import Derived.Deep.RegionLaw
import Derived.Deep.DrawnRows
namespace Go.Proofs.Ytoghgbbepjpelaa
open Go.RowKit
set_option linter.unusedVariables false

/-- A slice of the call's own, or nil. -/
def OwnN (w : World) (base : Nat) (e : TypeId) (v : Value) (xs : List Value) : Prop := (v = .slice none 0 0 ∧ xs = []) ∨ OwnS w base e v xs
theorem OwnN.nil (w : World) (base : Nat) (e : TypeId) : OwnN w base e (.slice none 0 0) [] := .inl ⟨rfl, rfl⟩
theorem OwnN.row {w : World} {base : Nat} {e : TypeId} {v : Value} {xs : List Value} (h : OwnN w base e v xs) : w.ownsRow base e 1 v xs.length xs := by
  rcases h with ⟨rfl, rfl⟩ | ⟨g, cap, rfl, _, hr⟩
  · exact World.ownsRow_nil _ _ _ _
  · exact hr
theorem OwnN.below {w w' : World} {base : Nat} {e : TypeId} {v : Value} {xs : List Value} (h : OwnN w base e v xs) (hb : Below w.heap.size w w') : OwnN w' base e v xs := by
  rcases h with h | h
  · exact .inl h
  · exact .inr (h.below hb)
theorem OwnN.kept {w w' : World} {base p : Nat} {e : TypeId} {v : Value} {xs : List Value} (h : OwnN w base e v xs) (hb : w.grownBy w' (some p)) (hp : p < base) : OwnN w' base e v xs := by
  rcases h with h | ⟨g, cap, rfl, hg, ho⟩
  · exact .inl h
  · exact .inr ⟨g, cap, rfl, hg, ho.kept hb (.inr (by simp [Value.ownBlock]; omega))⟩

theorem bel_drew {B : Nat} {a w : World} (h : Below B a w) : Below B a w.drew := ⟨h.os, h.tape, h.output, h.size, h.block⟩

theorem wpList_appN {P : Program} (W : World) {ops : Array Oper} {rest : List Oper} {o : Oper} {a : Act} {Q : Exit → Act → World → Prop} (hgd : o.guard = none) (s x : Operand) (t : TypeId)
    (ho : o.op = .call { callee := .builtin .append, args := #[s, x], argTypes := #[t, t] })
    (base : Nat) (e : TypeId) (z : Value) (bytes : Nat) (ht : P.underlying t = some (.slice e)) (hinfo : (P.info? e).map (fun i => (i.zero, i.size, i.bytes)) = some (some z, 1, bytes)) (hzs : z.cells.size = 1)
    (v : Value) (xs : List Value) (hown : OwnN W base e v xs) (hs : a.eval s = v)
    (u : Value) (b : Nat) (hx : a.eval x = .slice (some ⟨b, 0, none⟩) 1 1) (hbn : W.heap.size = b) (h1 : u.oneCell' = true)
    (hlen : xs.length ≤ 1048576) (hbytes : bytes ≤ 1024) (hbase : base ≤ W.heap.size)
    (h : ∀ v' w', OwnS w' base e v' (xs ++ [u]) → (∀ {B : Nat} {a : World}, B ≤ base → Below B a W → Below B a w') → W.heap.size ≤ w'.heap.size → wpList P ops Q rest (a.put o.dst v') w') :
    wpList P ops Q (o :: rest) a (W.alloc (.cells #[u] e)) := by
  rcases hown with ⟨rfl, rfl⟩ | hown
  · subst hbn
    obtain ⟨i, hi, hz0, hz1, hz2⟩ := info_parts hinfo
    have hbyt : (0 + 1) * bytes ≤ 140737488355328 := by omega
    refine wpList_append_own (W.alloc (.cells #[u] e)) hgd s x t ho base e i z 1 bytes ht hi hz0 hz1 hz2 hzs (by decide) _ _ _ hs ((World.ownsRow_nil W base e 1).alloc _) ⟨W.heap.size, 0, none⟩ 1 1 [u] hx rfl (cell_one_new _ _ _) (fun y hy => by simp at hy; subst hy; exact h1)
      (by unfold maxLen; omega) hbyt (by simp; omega) fun v' w' hown' hgr hnil => h v' w' ?_ ?_ ?_
    · rcases hown'.2 with ⟨hv, _⟩ | ⟨g', cap', cur, hv, hg', _⟩
      · have := hnil.1 hv
        simp at this
      · refine ⟨g', cap', by rw [hv]; simp, hg', ?_⟩
        rw [hv] at hown'
        simpa using hown'
    · intro B a hB hb
      refine (hb.alloc (by omega) _).grown hgr (by simp; omega) (fun k hk => ?_)
      simp [Value.ownBlock] at hk
    · have := hgr.size
      simp at this
      omega
  · exact wpList_app1 W hgd s x t ho base e z bytes ht hinfo hzs v xs hown hs u b hx hbn h1 hlen hbytes hbase h

/-- The same at a step of a region that draws its order: the element lies in block b. -/
theorem step_appC {P : Program} (W : World) {ops : Array Oper} {o : Oper} {a : Act} {K : Act → World → Prop} {Q : Exit → Act → World → Prop} {E : Prop} (hgd : o.guard = none) (s x : Operand) (t : TypeId)
    (ho : o.op = .call { callee := .builtin .append, args := #[s, x], argTypes := #[t, t] })
    (base : Nat) (e : TypeId) (z : Value) (bytes : Nat) (ht : P.underlying t = some (.slice e)) (hinfo : (P.info? e).map (fun i => (i.zero, i.size, i.bytes)) = some (some z, 1, bytes)) (hzs : z.cells.size = 1)
    (v : Value) (xs : List Value) (hown : OwnN W base e v xs) (hs : a.eval s = v)
    (u : Value) (b : Nat) (hx : a.eval x = .slice (some ⟨b, 0, none⟩) 1 1) (hnew : W.cell? ⟨b, 0, none⟩ = some u) (h1 : u.oneCell' = true)
    (hlen : xs.length ≤ 1048576) (hbytes : bytes ≤ 1024) (hbase : base ≤ W.heap.size)
    (h : ∀ v' w', OwnS w' base e v' (xs ++ [u]) → Below base W w' → W.heap.size ≤ w'.heap.size → K (a.put o.dst v') w') :
    if Region.wanted o (yielded ops a.tmps) = true then Oper.wp P o a W K Q else E := by
  obtain ⟨i, hi, hz0, hz1, hz2⟩ := info_parts hinfo
  have hbyt : (xs.length + 1) * bytes ≤ 140737488355328 := by
    have := Nat.mul_le_mul (show xs.length + 1 ≤ 1048577 by omega) hbytes
    omega
  have hadd : (⟨b, 0, none⟩ : Addr).add 0 = ⟨b, 0, none⟩ := by unfold Addr.add; split <;> simp_all
  refine step_append_lies W hgd s x t ho base e i z 1 bytes ht hi hz0 hz1 hz2 hzs (by decide) v xs.length xs hs hown.row ⟨b, 0, none⟩ 1 1 [u] hx rfl (fun j y hj => ?_) (fun y hy => by simp at hy; subst hy; exact h1) (by decide)
    (by unfold maxLen; omega) hbyt hbase _ rfl fun g cap w' hown' hgr hor hlt => h _ w' ?_ ?_ hgr.size
  · match j with
    | 0 =>
      simp only [List.getElem?_cons_zero, Option.some.injEq] at hj
      rw [hadd, ← hj]; exact hnew
    | k + 1 => simp at hj
  · have hl := hown'.lt g (by simp [Value.ownBlock])
    exact ⟨g, cap, by simp, hl.1, by simpa using hown'⟩
  · exact (Below.refl _ _).grown hgr hbase (fun k hk => (hown.row.lt k hk).1)
end Go.Proofs.Ytoghgbbepjpelaa
