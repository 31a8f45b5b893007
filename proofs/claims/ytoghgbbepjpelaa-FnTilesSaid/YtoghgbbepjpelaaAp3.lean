/- Appending a whole slice of one-cell elements to a slice that the call itself made. No function is named here. -/
import Derived.Test.YtoghgbbepjpelaaRows
import Derived.Test.YtoghgbbepjpelaaAp
import Derived.Lib.UnsafeStr
import Derived.Laws.IdiomStrings
namespace Go.Proofs.Ytoghgbbepjpelaa
open Go.RowKit
set_option linter.unusedVariables false

theorem add_plainS (b off i : Nat) : (⟨b, off, none⟩ : Addr).add i = ⟨b, off + i, none⟩ := by
  unfold Addr.add; split <;> simp_all
theorem OwnS.one {w : World} {base b : Nat} {e : TypeId} {u : Value} (hb : base ≤ w.heap.size) (hw : w.heap.size = b) : OwnS (w.alloc (.cells #[u] e)) base e (.slice (some ⟨b, 0, none⟩) 1 1) [u] := by
  subst hw
  exact ⟨w.heap.size, 1, rfl, hb, ⟨by simp, .inr ⟨w.heap.size, 1, #[u], rfl, hb, heap_alloc_new w _, Nat.le_refl _, by simp [maxLen], rfl, by simp⟩⟩⟩
theorem wpList_appS {P : Program} (W : World) {ops : Array Oper} {rest : List Oper} {o : Oper} {a : Act} {Q : Exit → Act → World → Prop} (hgd : o.guard = none) (s x : Operand) (t : TypeId)
    (ho : o.op = .call { callee := .builtin .append, args := #[s, x], argTypes := #[t, t] })
    (base : Nat) (e : TypeId) (z : Value) (bytes : Nat) (ht : P.underlying t = some (.slice e)) (hinfo : (P.info? e).map (fun i => (i.zero, i.size, i.bytes)) = some (some z, 1, bytes)) (hzs : z.cells.size = 1)
    (v : Value) (xs : List Value) (hown : OwnS W base e v xs) (hs : a.eval s = v)
    (b m c : Nat) (ys : List Value) (hx : a.eval x = .slice (some ⟨b, 0, none⟩) m c) (hm : ys.length = m) (hy : ∀ j u, ys[j]? = some u → W.cell? ⟨b, j, none⟩ = some u) (h1 : ∀ u ∈ ys, u.oneCell' = true)
    (hlen : xs.length + m ≤ 1048576) (hbytes : bytes ≤ 1024) (hbase : base ≤ W.heap.size)
    (h : ∀ v' w', OwnS w' base e v' (xs ++ ys) → (∀ {B : Nat} {a : World}, B ≤ base → Below B a W → Below B a w') → W.heap.size ≤ w'.heap.size → wpList P ops Q rest (a.put o.dst v') w') :
    wpList P ops Q (o :: rest) a W := by
  obtain ⟨i, hi, hz0, hz1, hz2⟩ := info_parts hinfo
  obtain ⟨g, cap, rfl, hg, hr⟩ := hown
  have hbyt : (xs.length + m) * bytes ≤ 140737488355328 := by
    have := Nat.mul_le_mul hlen hbytes
    omega
  refine wpList_append_own (w := W) hgd s x t ho base e i z 1 bytes ht hi hz0 hz1 hz2 hzs (by decide) _ _ _ hs hr ⟨b, 0, none⟩ m c ys hx (by omega) (fun j u hj => by rw [add_plainS, Nat.zero_add]; exact hy j u hj) h1
    (by unfold maxLen; omega) hbyt hbase fun v' w' hown' hgr hnil => h v' w' ?_ ?_ hgr.size
  · rcases hown'.2 with ⟨hv, _⟩ | ⟨g', cap', cur, hv, hg', _⟩
    · have := hnil.1 hv
      simp at this
    · refine ⟨g', cap', by rw [hv, List.length_append, hm], hg', ?_⟩
      rw [hv] at hown'
      rw [List.length_append, hm]
      exact hown'
  · intro B a hB hb
    refine hb.grown hgr (by omega) (fun k hk => ?_)
    simp [Value.ownBlock] at hk
    omega

/-- A slice of bytes of the call's own. -/
def OwnBy (w : World) (base : Nat) (e : TypeId) (v : Value) (l : List UInt8) : Prop := OwnS w base e v (Lib.byteCells l)
theorem OwnBy.cells {w : World} {base : Nat} {e : TypeId} {v : Value} {l : List UInt8} (h : OwnBy w base e v l) :
    ∃ g cap, v = .slice (some ⟨g, 0, none⟩) l.length cap ∧ g < w.heap.size ∧ base ≤ g ∧ ∀ j u, (Lib.byteCells l)[j]? = some u → w.cell? ⟨g, j, none⟩ = some u := by
  obtain ⟨g, cap, rfl, hg, ho⟩ := h
  refine ⟨g, cap, by rw [Lib.byteCells_length], (ho.lt g (by simp [Value.ownBlock])).2, hg, fun j u hj => ?_⟩
  have hl := (List.getElem?_eq_some_iff.1 hj).1
  rw [ho.cellAt j (by simpa using hl), hj]
theorem byteCell_of {w : World} {g : Nat} {l : List UInt8} (h : ∀ j u, (Lib.byteCells l)[j]? = some u → w.cell? ⟨g, j, none⟩ = some u) (j : Nat) (hj : j < l.length) : w.cell? ((⟨g, 0, none⟩ : Addr).add j) = some (.int .u8 (l[j].toNat : Int)) := by
  rw [add_plainS, Nat.zero_add]
  exact h j _ (by simp [Lib.byteCells, hj])
theorem info_u8B : (Try.prog.info? 5).map (fun i => (i.zero, i.size, i.bytes)) = some (some (.int .u8 0), 1, 1) := by kernel_rfl
end Go.Proofs.Ytoghgbbepjpelaa
