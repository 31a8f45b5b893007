/- A slice of the call's own: another block is written, a part of it is taken, one element is stored; a slice appended from an offset on. No function is named here. -/
import Derived.Test.YtoghgbbepjpelaaAp
import Derived.Deep.Onto
namespace Go.Proofs.Ytoghgbbepjpelaa
open Go.RowKit
set_option linter.unusedVariables false

theorem OwnS.grown {w w' : World} {base p : Nat} {e : TypeId} {v : Value} {xs : List Value} (h : OwnS w base e v xs) (hb : w.grownBy w' (some p)) (hp : p < base) : OwnS w' base e v xs := by
  obtain ⟨g, cap, rfl, hg, ho⟩ := h
  exact ⟨g, cap, rfl, hg, ho.kept hb (.inr (by simp [Value.ownBlock]; omega))⟩
theorem OwnS.base {w : World} {base base' : Nat} {e : TypeId} {v : Value} {xs : List Value} (h : OwnS w base e v xs) (hb : base' ≤ base) : OwnS w base' e v xs := by
  obtain ⟨g, cap, rfl, hg, ho⟩ := h
  exact ⟨g, cap, rfl, by omega, ho.mono hb⟩
theorem OwnS.parts {w : World} {base : Nat} {e : TypeId} {g n cap : Nat} {xs : List Value} (h : OwnS w base e (.slice (some ⟨g, 0, none⟩) n cap) xs) :
    xs.length = n ∧ base ≤ g ∧ g < w.heap.size ∧ n ≤ cap ∧ w.ownsRow base e 1 (.slice (some ⟨g, 0, none⟩) n cap) n xs := by
  obtain ⟨g', cap', hv, hg, ho⟩ := h
  simp only [Value.slice.injEq, Option.some.injEq, Addr.mk.injEq, and_true] at hv
  obtain ⟨rfl, rfl, rfl⟩ := hv
  refine ⟨rfl, hg, (ho.lt g (by simp [Value.ownBlock])).2, ?_, ho⟩
  rcases ho.2 with ⟨h, _⟩ | ⟨g', cap', cur, h, _, _, hc, _⟩
  · cases h
  · simp only [Value.slice.injEq] at h
    omega
theorem OwnS.form {w : World} {base : Nat} {e : TypeId} {v : Value} {xs : List Value} (h : OwnS w base e v xs) : ∃ g cap, v = .slice (some ⟨g, 0, none⟩) xs.length cap := by
  obtain ⟨g, cap, rfl, _⟩ := h
  exact ⟨g, cap, rfl⟩
theorem OwnS.take {w : World} {base : Nat} {e : TypeId} {g n cap k : Nat} {xs : List Value} (h : OwnS w base e (.slice (some ⟨g, 0, none⟩) n cap) xs) (hk : k ≤ n) : OwnS w base e (.slice (some ⟨g, 0, none⟩) k cap) (xs.take k) := by
  obtain ⟨hl, hg, hgl, hnc, ho⟩ := h.parts
  have hl2 : (xs.take k).length = k := by simp; omega
  refine ⟨g, cap, by rw [hl2], hg, ?_⟩
  rw [hl2]
  refine ⟨by rw [hl2]; omega, .inr ?_⟩
  rcases ho.2 with ⟨h', _⟩ | ⟨g', cap', cur, h', hb, hgg, hnc', hcm, hcs, htake⟩
  · cases h'
  · simp only [Value.slice.injEq, Option.some.injEq, Addr.mk.injEq, and_true, true_and] at h'
    obtain ⟨rfl, rfl⟩ := h'
    exact ⟨g, cap, cur, rfl, hb, hgg, by omega, hcm, hcs, by rw [← htake, List.take_take]; congr 1; omega⟩
theorem OwnS.set {w : World} {base : Nat} {e : TypeId} {g n cap : Nat} {xs : List Value} (h : OwnS w base e (.slice (some ⟨g, 0, none⟩) n cap) xs) (j : Nat) (u : Value) : OwnS (w.setCell ⟨g, j, none⟩ u) base e (.slice (some ⟨g, 0, none⟩) n cap) (xs.set j u) := by
  obtain ⟨hl, hg, hgl, hnc, ho⟩ := h.parts
  refine ⟨g, cap, by rw [List.length_set, hl], hg, ?_⟩
  rw [List.length_set, hl]
  exact (ho.stored j u).1
theorem OwnS.at_ {w : World} {base : Nat} {e : TypeId} {g n cap j : Nat} {xs : List Int} (h : OwnS w base e (.slice (some ⟨g, 0, none⟩) n cap) (xs.map (.int .i64))) (hj : j < n) : w.cell? ⟨g, j, none⟩ = some (.int .i64 (nth xs j)) := by
  obtain ⟨hl, hg, hgl, hnc, ho⟩ := h.parts
  have hj' : j < xs.length := by simp at hl; omega
  rw [ho.cellAt j (by simpa using hj)]
  simp [List.getElem?_eq_getElem hj', nth_lt hj']
theorem OwnS.fz {w : World} {base : Nat} {e : TypeId} {g n cap : Nat} {xs : List Value} (h : OwnS w base e (.slice (some ⟨g, 0, none⟩) n cap) xs) (o : Nat) : w.frozen? ⟨g, o, none⟩ = false := h.parts.2.2.2.2.frozenAt o
theorem OwnS.made_n {w : World} {base b : Nat} {e : TypeId} {z : Value} (n : Nat) (hb : base ≤ w.heap.size) (hw : w.heap.size = b) (hn : n ≤ maxLen) : OwnS (w.alloc (.cells (madeCells #[z] n) e)) base e (.slice (some ⟨b, 0, none⟩) n n) (List.replicate n z) := by
  subst hw
  have hl : (List.replicate n z).length = n := by simp
  refine ⟨w.heap.size, n, by rw [hl], hb, ?_⟩
  rw [hl, ← toList_madeCells_one]
  exact World.ownsRow_lit w _ n hb hn (by simpa using size_madeCells #[z] n)

theorem add_plainO (b off i : Nat) : (⟨b, off, none⟩ : Addr).add i = ⟨b, off + i, none⟩ := by
  unfold Addr.add; split <;> simp_all
theorem wpList_appSo {P : Program} (W : World) {ops : Array Oper} {rest : List Oper} {o : Oper} {a : Act} {Q : Exit → Act → World → Prop} (hgd : o.guard = none) (s x : Operand) (t : TypeId)
    (ho : o.op = .call { callee := .builtin .append, args := #[s, x], argTypes := #[t, t] })
    (base : Nat) (e : TypeId) (z : Value) (bytes : Nat) (ht : P.underlying t = some (.slice e)) (hinfo : (P.info? e).map (fun i => (i.zero, i.size, i.bytes)) = some (some z, 1, bytes)) (hzs : z.cells.size = 1)
    (v : Value) (xs : List Value) (hown : OwnS W base e v xs) (hs : a.eval s = v)
    (b off m c : Nat) (ys : List Value) (hx : a.eval x = .slice (some ⟨b, off, none⟩) m c) (hm : ys.length = m) (hy : ∀ j u, ys[j]? = some u → W.cell? ⟨b, off + j, none⟩ = some u) (h1 : ∀ u ∈ ys, u.oneCell' = true)
    (hlen : xs.length + m ≤ 1048576) (hbytes : bytes ≤ 1024) (hbase : base ≤ W.heap.size)
    (h : ∀ v' w', OwnS w' base e v' (xs ++ ys) → (∀ {B : Nat} {a : World}, B ≤ base → Below B a W → Below B a w') → W.heap.size ≤ w'.heap.size → wpList P ops Q rest (a.put o.dst v') w') :
    wpList P ops Q (o :: rest) a W := by
  obtain ⟨i, hi, hz0, hz1, hz2⟩ := info_parts hinfo
  obtain ⟨g, cap, rfl, hg, hr⟩ := hown
  have hbyt : (xs.length + m) * bytes ≤ 140737488355328 := by
    have := Nat.mul_le_mul hlen hbytes
    omega
  refine wpList_append_own (w := W) hgd s x t ho base e i z 1 bytes ht hi hz0 hz1 hz2 hzs (by decide) _ _ _ hs hr ⟨b, off, none⟩ m c ys hx (by omega) (fun j u hj => by rw [add_plainO]; exact hy j u hj) h1
    (by unfold maxLen; omega) hbyt hbase fun v' w' hown' hgr hnil => h v' w' ?_ ?_ hgr.size
  · rcases hown'.2 with ⟨hv, _⟩ | ⟨g', cap', cur, hv, hg', _⟩
    · have := hnil.1 hv
      simp at this
    · refine ⟨g', cap', by rw [hv, List.length_append, hm], hg', ?_⟩
      rw [hv] at hown'
      rw [List.length_append, hm]
      exact hown'
  · intro B a hB hb
    refine hb.grown hgr (by omega) (fun k hk => ?_)
    simp [Value.ownBlock] at hk
    omega
theorem map_set (l : List Int) (j : Nat) (x : Int) : (l.map (Value.int .i64)).set j (.int .i64 x) = (l.set j x).map (Value.int .i64) := by rw [List.map_set]
theorem map_take (l : List Int) (j : Nat) : (l.map (Value.int .i64)).take j = (l.take j).map (Value.int .i64) := by rw [List.map_take]
end Go.Proofs.Ytoghgbbepjpelaa
