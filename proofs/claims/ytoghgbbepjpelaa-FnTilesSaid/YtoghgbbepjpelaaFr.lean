/- What the rows' frames share: an argument's slice of int64s, opened. No function is named here. -/
import Derived.Test.YtoghgbbepjpelaaBase
import Derived.Lib.SmallJoins
import Derived.ShutString
import Derived.ChangeOld
import Derived.OpenShut
namespace Go.Proofs.Ytoghgbbepjpelaa
open Go.ChangeShapes Go.WideShapes Go.ChangeAt Go.RowKit Go.Joins
set_option linter.unusedVariables false

theorem bel_tr {a b c : World} (h : Below a.heap.size a b) (k : Below b.heap.size b c) : Below a.heap.size a c := h.trans (k.mono h.size)

/-- A slice of int64s that came in. -/
structure Raw (w : World) (A : Option Addr) (n : Nat) (xs : List Int) : Prop where
  len : xs.length = n
  bound : n ≤ 9223372036854775807
  cell : 0 < n → ∃ b off, A = some ⟨b, off, none⟩ ∧ b < w.heap.size ∧ ∀ j, j < n → w.cell? ⟨b, off + j, none⟩ = some (.int .i64 (nth xs j))
  wf : ∀ j, j < n → -9223372036854775808 ≤ nth xs j ∧ nth xs j ≤ 9223372036854775807
theorem Raw.ints {w : World} {A : Option Addr} {n : Nat} {xs : List Int} (h : Raw w A n xs) (hn : n ≤ 1048576) : Ints w A n xs := ⟨h.len, hn, h.cell⟩
theorem Raw.below {w w' : World} {A : Option Addr} {n : Nat} {xs : List Int} (h : Raw w A n xs) (hb : Below w.heap.size w w') : Raw w' A n xs :=
  ⟨h.len, h.bound, fun hn => by
    obtain ⟨b, off, e, hlt, hc⟩ := h.cell hn
    exact ⟨b, off, e, Nat.lt_of_lt_of_le hlt hb.size, fun j hj => (hb.cell (p := ⟨b, off + j, none⟩) hlt).trans (hc j hj)⟩, h.wf⟩

theorem add_none (b off i : Nat) (s : Option Nat) (hs : s = none) : (⟨b, off, none⟩ : Addr).add i = ⟨b, off + i, none⟩ := by
  unfold Addr.add; split <;> simp_all

theorem slice_raw {H : Type} {enc : TypeId × Value → H} {P : Program} {w : World} {base : Nat} {spare : Nat → Bool} {held : Bool} {t e : TypeId} {fuel : Nat} {v : Value} {x : DataW H × List MemPlace}
    (ht : P.underlying t = some (.slice e)) (he : P.underlying e = some (.int .i64)) (hc : P.cellsOf e = 1) (h : DataW.trod enc P w base spare held fuel t [v] = some x) :
    ∃ A n c xs, v = .slice A n c ∧ Raw w A n xs := by
  rcases open_ints ht he hc h with ⟨hcs, _⟩ | ⟨a, len, cap, zs, hcs, _, hl, hm, hz, _, hcell, hwz⟩
  · simp at hcs
    exact ⟨none, 0, 0, [], hcs, rfl, by omega, fun h => absurd h (by omega), fun j hj => absurd hj (by omega)⟩
  · simp at hcs
    have hzl : len ≤ zs.length := by rw [hz]; split <;> omega
    have hle : (zs.take len).length = len := by simp; omega
    have hnth : ∀ j, j < len → nth (zs.take len) j = zs.getD j 0 := fun j hj => by
      simp [nth, List.getD_eq_getElem?_getD, hj]
    unfold maxLen at hm
    refine ⟨some a, len, cap, zs.take len, hcs, hle, by omega, fun hn => ?_, fun j hj => ?_⟩
    · obtain ⟨b, off, spot⟩ := a
      have h0 := hcell 0 (by omega)
      have hspot : spot = none := by simpa [Addr.add] using World.cell?_spot h0
      subst hspot
      refine ⟨b, off, rfl, World.block_lt_of_cell? w _ (by simpa [Addr.add] using h0), fun j hj => ?_⟩
      rw [hnth j hj, ← hcell j (by omega), add_none b off j none rfl]
    · rw [hnth j hj]
      have hmem : zs.getD j 0 ∈ zs := by
        rw [List.getD_eq_getElem?_getD, List.getElem?_eq_getElem (by omega)]
        exact List.getElem_mem _
      exact bounds_i64 (hwz _ hmem)
theorem param_raw {H : Type} {enc : TypeId × Value → H} {P : Program} {w : World} {base : Nat} {spare : Nat → Bool} {held : Bool} {t e : TypeId} {A : Option Addr} {n c : Nat} {d : DataW H} {p : List MemPlace}
    (ht : P.underlying t = some (.slice e)) (he : P.underlying e = some (.int .i64)) (hc : P.cellsOf e = 1) (h : DataW.Trod enc P w base spare held t (.slice A n c) d p) :
    ∃ xs, Raw w A n xs := by
  obtain ⟨fuel, hf⟩ := h
  obtain ⟨A', n', c', xs, hv, hR⟩ := slice_raw ht he hc hf
  simp only [Value.slice.injEq] at hv
  obtain ⟨rfl, rfl, rfl⟩ := hv
  exact ⟨xs, hR⟩
end Go.Proofs.Ytoghgbbepjpelaa
