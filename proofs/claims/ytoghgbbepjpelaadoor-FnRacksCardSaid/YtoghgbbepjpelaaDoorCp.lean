/- Appending a whole slice of records to an empty one that the call itself made. No function is named here. -/
import Derived.Test.YtoghgbbepjpelaaDoorFz
import Derived.Test.YtoghgbbepjpelaaDoorAp
namespace Go.Proofs.YtoghgbbepjpelaaDoor
open Go.RowKit
set_option linter.unusedVariables false

theorem add_plain (b off i : Nat) : (⟨b, off, none⟩ : Addr).add i = ⟨b, off + i, none⟩ := by unfold Addr.add; split <;> simp_all

theorem wpList_appAll {P : Program} (W : World) {ops : Array Oper} {rest : List Oper} {o : Oper} {a : Act} {Q : Exit → Act → World → Prop} (hgd : o.guard = none) (s x : Operand) (t : TypeId)
    (ho : o.op = .call { callee := .builtin .append, args := #[s, x], argTypes := #[t, t] })
    (base : Nat) (e : TypeId) (z : Value) (size bytes : Nat) (ht : P.underlying t = some (.slice e)) (hinfo : (P.info? e).map (fun i => (i.zero, i.size, i.bytes)) = some (some z, size, bytes)) (hzs : z.cells.size = size) (hsz : 0 < size)
    (v : Value) (hown : W.ownsRow base e size v 0 []) (hs : a.eval s = v)
    (b off m c : Nat) (g : Nat → Value) (hx : a.eval x = .slice (some ⟨b, off, none⟩) m c) (hnews : CellsAt W b off (m * size) g) (h1 : ∀ t, (g t).oneCell' = true)
    (hm : 0 < m) (hlen : m ≤ 1048576) (hbytes : bytes ≤ 1024) (hbase : base ≤ W.heap.size) (hvb : ∀ k, v.ownBlock = some k → base ≤ k)
    (h : ∀ q cap w', base ≤ q → q < w'.heap.size → CellsAt w' q 0 (m * size) g → (∀ o, w'.frozen? ⟨q, o, none⟩ = false) → (∀ {B : Nat} {a : World}, B ≤ base → Below B a W → Below B a w') → W.heap.size ≤ w'.heap.size →
      wpList P ops Q rest (a.put o.dst (.slice (some ⟨q, 0, none⟩) m cap)) w') :
    wpList P ops Q (o :: rest) a W := by
  obtain ⟨i, hi, hz0, hz1, hz2⟩ := info_parts hinfo
  have hbyt : (0 + m) * bytes ≤ 140737488355328 := by
    have := Nat.mul_le_mul (show 0 + m ≤ 1048576 by omega) hbytes
    omega
  refine wpList_append_own W hgd s x t ho base e i z size bytes ht hi hz0 hz1 hz2 hzs hsz _ _ _ hs hown ⟨b, off, none⟩ m c ((List.range (m * size)).map g) hx (by simp) (fun j u hj => ?_) (fun u hu => ?_)
    (by unfold maxLen; omega) hbyt hbase fun v' w' hown' hgr hnil => ?_
  · rw [List.getElem?_map] at hj
    by_cases hlt : j < m * size
    · rw [List.getElem?_range hlt] at hj
      simp only [Option.map_some, Option.some.injEq] at hj
      rw [add_plain, ← hj]
      exact hnews _ hlt
    · rw [List.getElem?_eq_none (by simp; omega)] at hj
      cases hj
  · simp only [List.mem_map] at hu
    obtain ⟨j, _, rfl⟩ := hu
    exact h1 j
  · rcases hown'.2 with ⟨_, h0⟩ | ⟨q, cap, cur, hv, hg', hcur, _⟩
    · omega
    · rw [Nat.zero_add] at hv hown'
      subst hv
      have hlt := hown'.lt q (by simp [Value.ownBlock])
      refine h q cap w' hg' hlt.2 (fun t ht => ?_) (fun o => hown'.frozenAt o) (fun hB hb => ?_) hgr.size
      · rw [Nat.zero_add, hown'.cellAt t ht]
        simp [ht]
      · exact hb.grown hgr (by omega) (fun k hk => by have := hvb k hk; omega)
end Go.Proofs.YtoghgbbepjpelaaDoor
