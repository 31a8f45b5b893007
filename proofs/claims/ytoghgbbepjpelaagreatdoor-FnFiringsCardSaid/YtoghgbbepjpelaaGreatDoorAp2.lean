/- Appending one element to a slice that the call itself made, beside another block of the call's own that is kept. No function is named here. -/
import Derived.Test.YtoghgbbepjpelaaGreatDoorAp
import Derived.Maps.AppendAt
namespace Go.Proofs.YtoghgbbepjpelaaGreatDoor
open Go.RowKit
set_option linter.unusedVariables false

theorem OwnS.ne_new {w : World} {base : Nat} {e : TypeId} {v : Value} {xs : List Value} (h : OwnS w base e v xs) {r : Nat} (hr : w.heap.size ≤ r) : v.ownBlock ≠ some r := by
  obtain ⟨g, cap, rfl, hg, ho⟩ := h
  have hlt := ho.lt g (by simp [Value.ownBlock])
  intro h
  simp only [Value.ownBlock, Option.some.injEq] at h
  omega
theorem wpList_app1k {P : Program} (W : World) {ops : Array Oper} {rest : List Oper} {o : Oper} {a : Act} {Q : Exit → Act → World → Prop} (hgd : o.guard = none) (s x : Operand) (t : TypeId)
    (ho : o.op = .call { callee := .builtin .append, args := #[s, x], argTypes := #[t, t] })
    (base : Nat) (e : TypeId) (z : Value) (bytes : Nat) (ht : P.underlying t = some (.slice e)) (hinfo : (P.info? e).map (fun i => (i.zero, i.size, i.bytes)) = some (some z, 1, bytes)) (hzs : z.cells.size = 1)
    (v : Value) (xs : List Value) (hown : OwnS W base e v xs) (hs : a.eval s = v)
    (u : Value) (b : Nat) (hx : a.eval x = .slice (some ⟨b, 0, none⟩) 1 1) (hbn : W.heap.size = b) (h1 : u.oneCell' = true)
    (hlen : xs.length ≤ 1048576) (hbytes : bytes ≤ 1024) (hbase : base ≤ W.heap.size)
    (h : ∀ v' w', OwnS w' base e v' (xs ++ [u]) → (∀ {B : Nat} {a : World}, B ≤ base → Below B a W → Below B a w') → W.heap.size ≤ w'.heap.size →
      (∀ r, r < W.heap.size → v.ownBlock ≠ some r → (∀ o, w'.cell? ⟨r, o, none⟩ = W.cell? ⟨r, o, none⟩) ∧ v'.ownBlock ≠ some r) → wpList P ops Q rest (a.put o.dst v') w') :
    wpList P ops Q (o :: rest) a (W.alloc (.cells #[u] e)) := by
  subst hbn
  obtain ⟨i, hi, hz0, hz1, hz2⟩ := info_parts hinfo
  obtain ⟨g, cap, rfl, hg, hr⟩ := hown
  have hbyt : (xs.length + 1) * bytes ≤ 140737488355328 := by
    have := Nat.mul_le_mul (show xs.length + 1 ≤ 1048577 by omega) hbytes
    omega
  have hglt := (hr.lt g (by simp [Value.ownBlock])).2
  refine wpList_append_own_at (w := W.alloc (.cells #[u] e)) hgd s x t ho base e i z 1 bytes ht hi hz0 hz1 hz2 hzs (by decide) _ _ _ hs (hr.alloc _) ⟨W.heap.size, 0, none⟩ 1 1 [u] hx rfl (cell_one_new _ _ _) (fun y hy => by simp at hy; subst hy; exact h1)
    (by unfold maxLen; omega) hbyt (by simp; omega) fun v' w' hown' hgr hnil hob => h v' w' ?_ ?_ ?_ ?_
  · rcases hown'.2 with ⟨hv, _⟩ | ⟨g', cap', cur, hv, hg', _⟩
    · have := hnil.1 hv
      simp at this
    · refine ⟨g', cap', by rw [hv]; simp, hg', ?_⟩
      rw [hv] at hown'
      simpa using hown'
  · intro B a hB hb
    refine (hb.alloc (by omega) _).grown hgr (by simp; omega) (fun k hk => ?_)
    simp [Value.ownBlock] at hk
    omega
  · have := hgr.size
    simp at this
    omega
  · intro r hrl hne
    refine ⟨fun o => ?_, ?_⟩
    · have hb := hgr.block r (by simp; omega) (fun e => hne e.symm)
      rw [World.cell?_of_block (a := ⟨r, o, none⟩) hb]
      exact World.cell?_of_block (a := ⟨r, o, none⟩) (heap_alloc_old W _ hrl)
    · rcases hob with e | e
      · rw [e]; exact hne
      · rw [e]; intro h; simp only [Option.some.injEq, World.size_alloc] at h; omega
end Go.Proofs.YtoghgbbepjpelaaGreatDoor
