/- Appending one element to a slice that the call itself made; what such a slice reads as. No function is named here. -/
import Derived.Test.YtoghgbbepjpelaaBase
namespace Go.Proofs.Ytoghgbbepjpelaa
open Go.RowKit
set_option linter.unusedVariables false

/-- A slice of the call's own, not nil, with elements of one cell. -/
def OwnS (w : World) (base : Nat) (e : TypeId) (v : Value) (xs : List Value) : Prop :=
  ∃ g cap, v = .slice (some ⟨g, 0, none⟩) xs.length cap ∧ base ≤ g ∧ w.ownsRow base e 1 (.slice (some ⟨g, 0, none⟩) xs.length cap) xs.length xs
theorem OwnS.made (w : World) (base : Nat) (e : TypeId) (hb : base ≤ w.heap.size) : OwnS (w.alloc (.cells #[] e)) base e (.slice (some ⟨w.heap.size, 0, none⟩) 0 0) [] :=
  ⟨_, _, rfl, hb, World.ownsRow_made w #[] 0 hb (by simp [maxLen]) (by simp)⟩
theorem OwnS.made' {w : World} {base b : Nat} {e : TypeId} (hb : base ≤ w.heap.size) (hw : w.heap.size = b) : OwnS (w.alloc (.cells #[] e)) base e (.slice (some ⟨b, 0, none⟩) 0 0) [] := by
  subst hw; exact OwnS.made w base e hb
theorem OwnS.alloc {w : World} {base : Nat} {e : TypeId} {v : Value} {xs : List Value} (h : OwnS w base e v xs) (o : Obj) : OwnS (w.alloc o) base e v xs := by
  obtain ⟨g, cap, rfl, hg, ho⟩ := h
  exact ⟨g, cap, rfl, hg, ho.alloc o⟩
theorem OwnS.below {w w' : World} {base : Nat} {e : TypeId} {v : Value} {xs : List Value} (h : OwnS w base e v xs) (hb : Below w.heap.size w w') : OwnS w' base e v xs := by
  obtain ⟨g, cap, rfl, hg, ho⟩ := h
  have hlt := ho.lt g (by simp [Value.ownBlock])
  exact ⟨g, cap, rfl, hg, ho.kept (row := none) ⟨hb.os, hb.tape, hb.output, hb.size, fun k hk _ => hb.block k hk⟩ (.inr (by simp [Value.ownBlock]))⟩
theorem OwnS.lt {w : World} {base : Nat} {e : TypeId} {g n cap : Nat} {xs : List Value} (h : OwnS w base e (.slice (some ⟨g, 0, none⟩) n cap) xs) : base ≤ g ∧ g < w.heap.size := by
  obtain ⟨g', cap', hv, hg, ho⟩ := h
  simp only [Value.slice.injEq, Option.some.injEq, Addr.mk.injEq, and_true] at hv
  obtain ⟨rfl, rfl, rfl⟩ := hv
  exact ho.lt g (by simp [Value.ownBlock])
/-- Read as a list of ints. -/
theorem OwnS.ints {w : World} {base : Nat} {e : TypeId} {v : Value} {xs : List Int} (h : OwnS w base e v (xs.map (.int .i64))) (hn : xs.length ≤ 1048576) :
    ∃ g cap, v = .slice (some ⟨g, 0, none⟩) xs.length cap ∧ base ≤ g ∧ xs.length ≤ cap ∧ Ints w (some ⟨g, 0, none⟩) xs.length xs := by
  obtain ⟨g, cap, rfl, hg, ho⟩ := h
  simp only [List.length_map] at ho ⊢
  have hcap : xs.length ≤ cap := by
    rcases ho.2 with ⟨h, _⟩ | ⟨g', cap', cur, h, _, _, hc, _⟩
    · cases h
    · simp only [Value.slice.injEq] at h
      omega
  refine ⟨g, cap, rfl, hg, hcap, rfl, hn, fun h0 => ⟨g, 0, rfl, (ho.lt g (by simp [Value.ownBlock])).2, fun j hj => ?_⟩⟩
  have hj' : j < xs.length := hj
  rw [Nat.zero_add, ho.cellAt j (by simpa using hj')]
  simp [List.getElem?_eq_getElem hj', nth_lt hj']
/-- Read as bytes. -/
theorem OwnS.bytes {w : World} {base : Nat} {e : TypeId} {v : Value} {xs : List Int} (h : OwnS w base e v (xs.map (.int .u8))) :
    ∃ g cap, v = .slice (some ⟨g, 0, none⟩) xs.length cap ∧ g < w.heap.size ∧ ∀ j, j < xs.length → w.cell? ⟨g, 0 + j, none⟩ = some (.int .u8 (xs.getD j 0)) := by
  obtain ⟨g, cap, rfl, hg, ho⟩ := h
  simp only [List.length_map] at ho ⊢
  refine ⟨g, cap, rfl, (ho.lt g (by simp [Value.ownBlock])).2, fun j hj => ?_⟩
  rw [Nat.zero_add, ho.cellAt j (by simpa using hj)]
  simp [List.getElem?_eq_getElem hj, List.getD_eq_getElem?_getD]

theorem wpList_app1 {P : Program} (W : World) {ops : Array Oper} {rest : List Oper} {o : Oper} {a : Act} {Q : Exit → Act → World → Prop} (hgd : o.guard = none) (s x : Operand) (t : TypeId)
    (ho : o.op = .call { callee := .builtin .append, args := #[s, x], argTypes := #[t, t] })
    (base : Nat) (e : TypeId) (z : Value) (bytes : Nat) (ht : P.underlying t = some (.slice e)) (hinfo : (P.info? e).map (fun i => (i.zero, i.size, i.bytes)) = some (some z, 1, bytes)) (hzs : z.cells.size = 1)
    (v : Value) (xs : List Value) (hown : OwnS W base e v xs) (hs : a.eval s = v)
    (u : Value) (b : Nat) (hx : a.eval x = .slice (some ⟨b, 0, none⟩) 1 1) (hbn : W.heap.size = b) (h1 : u.oneCell' = true)
    (hlen : xs.length ≤ 1048576) (hbytes : bytes ≤ 1024) (hbase : base ≤ W.heap.size)
    (h : ∀ v' w', OwnS w' base e v' (xs ++ [u]) → (∀ {B : Nat} {a : World}, B ≤ base → Below B a W → Below B a w') → W.heap.size ≤ w'.heap.size → wpList P ops Q rest (a.put o.dst v') w') :
    wpList P ops Q (o :: rest) a (W.alloc (.cells #[u] e)) := by
  subst hbn
  obtain ⟨i, hi, hz0, hz1, hz2⟩ := info_parts hinfo
  obtain ⟨g, cap, rfl, hg, hr⟩ := hown
  have hbyt : (xs.length + 1) * bytes ≤ 140737488355328 := by
    have := Nat.mul_le_mul (show xs.length + 1 ≤ 1048577 by omega) hbytes
    omega
  refine wpList_append_own (W.alloc (.cells #[u] e)) hgd s x t ho base e i z 1 bytes ht hi hz0 hz1 hz2 hzs (by decide) _ _ _ hs (hr.alloc _) ⟨W.heap.size, 0, none⟩ 1 1 [u] hx rfl (cell_one_new _ _ _) (fun y hy => by simp at hy; subst hy; exact h1)
    (by unfold maxLen; omega) hbyt (by simp; omega) fun v' w' hown' hgr hnil => h v' w' ?_ ?_ ?_
  · rcases hown'.2 with ⟨hv, _⟩ | ⟨g', cap', cur, hv, hg', _⟩
    · have := hnil.1 hv
      simp at this
    · refine ⟨g', cap', by rw [hv]; simp, hg', ?_⟩
      rw [hv] at hown'
      simpa using hown'
  · intro B a hB hb
    refine (hb.alloc (by omega) _).grown hgr (by simp; omega) (fun k hk => ?_)
    simp [Value.ownBlock] at hk
    omega
  · have := hgr.size
    simp at this
    omega
end Go.Proofs.Ytoghgbbepjpelaa
