/- A slice of causes that a call appends to. No function is walked here. -/
import Derived.Test.YtmapjepdcbpalaaGreatDoorOCm
import Derived.Test.YtmapjepdcbpalaaGreatDoorLs
import Derived.Test.YtmapjepdcbpalaaGreatDoorCp
namespace Go.Proofs.YtmapjepdcbpalaaGreatDoor
open Go.RowKit
set_option linter.unusedVariables false

/-- The cells of some causes. -/
def cellsC : List Cause → List Value
  | [] => []
  | c :: l => .int .i64 c.Kind :: .int .i64 c.Number :: cellsC l
theorem cellsC_len : ∀ l : List Cause, (cellsC l).length = l.length * 2
  | [] => rfl
  | c :: l => by rw [cellsC, List.length_cons, List.length_cons, cellsC_len l, List.length_cons]; omega
theorem cellsC_append : ∀ l m : List Cause, cellsC (l ++ m) = cellsC l ++ cellsC m
  | [], _ => rfl
  | c :: l, m => by rw [List.cons_append, cellsC, cellsC, cellsC_append l m]; rfl
theorem cellsC_get : ∀ {l : List Cause} {j : Nat}, j < l.length → (cellsC l)[j * 2]? = some (.int .i64 (nt l j).Kind) ∧ (cellsC l)[j * 2 + 1]? = some (.int .i64 (nt l j).Number)
  | c :: l, 0, _ => ⟨rfl, rfl⟩
  | c :: l, j + 1, h => by
    have h' : j < l.length := by rw [List.length_cons] at h; omega
    rw [show (j + 1) * 2 = j * 2 + 1 + 1 by omega, show j * 2 + 1 + 1 + 1 = j * 2 + 1 + 1 + 1 from rfl, cellsC, List.getElem?_cons_succ, List.getElem?_cons_succ, List.getElem?_cons_succ, List.getElem?_cons_succ]
    exact cellsC_get h'
theorem cellsC_one {l : List Cause} : ∀ u ∈ cellsC l, u.oneCell' = true := by
  induction l with
  | nil => intro u h; cases h
  | cons c l ih =>
    intro u h
    simp only [cellsC, List.mem_cons] at h
    rcases h with rfl | rfl | h
    · rfl
    · rfl
    · exact ih u h

/-- A slice of the call's own, not nil, that holds some causes. -/
def OwnC (w : World) (base : Nat) (v : Value) (l : List Cause) : Prop :=
  ∃ g cap, v = .slice (some ⟨g, 0, none⟩) l.length cap ∧ base ≤ g ∧ w.ownsRow base 33 2 (.slice (some ⟨g, 0, none⟩) l.length cap) l.length (cellsC l)
theorem OwnC.made' {w : World} {base b : Nat} (hb : base ≤ w.heap.size) (hw : w.heap.size = b) : OwnC (w.alloc (.cells #[] 33)) base (.slice (some ⟨b, 0, none⟩) 0 0) [] := by
  subst hw
  exact ⟨_, _, rfl, hb, World.ownsRow_made w #[] 0 hb (by simp [maxLen]) (by simp)⟩
theorem OwnC.below {w w' : World} {base : Nat} {v : Value} {l : List Cause} (h : OwnC w base v l) (hb : Below w.heap.size w w') : OwnC w' base v l := by
  obtain ⟨g, cap, rfl, hg, ho⟩ := h
  exact ⟨g, cap, rfl, hg, ho.kept (row := none) ⟨hb.os, hb.tape, hb.output, hb.size, fun k hk _ => hb.block k hk⟩ (.inr (by simp [Value.ownBlock]))⟩
theorem OwnC.row {w : World} {base : Nat} {v : Value} {l : List Cause} (h : OwnC w base v l) : ∃ g cap, v = .slice (some ⟨g, 0, none⟩) l.length cap ∧ base ≤ g ∧ l.length ≤ cap ∧ RowFCause w g l.length (nt l) := by
  obtain ⟨g, cap, rfl, hg, ho⟩ := h
  have hcap : l.length ≤ cap := by
    rcases ho.2 with ⟨h, _⟩ | ⟨g', cap', cur, h, _, _, hc, _⟩
    · cases h
    · simp only [Value.slice.injEq] at h
      omega
  refine ⟨g, cap, rfl, hg, hcap, (ho.lt g (by simp [Value.ownBlock])).2, fun j hj => ?_, fun o => ho.frozenAt o⟩
  obtain ⟨h0, h1⟩ := cellsC_get hj
  exact ⟨by rw [ho.cellAt _ (by omega), h0], by rw [ho.cellAt _ (by omega), h1]⟩
theorem info_Cause' : (Tryz.prog.info? 33).map (fun i => (i.zero, i.size, i.bytes)) = some (some (.agg #[.int .i64 0, .int .i64 0]), 2, 16) := by kernel_rfl

/-- Some causes, at most a million, are appended. -/
theorem wpList_appCS (W : World) {ops : Array Oper} {rest : List Oper} {o : Oper} {a : Act} {Q : Exit → Act → World → Prop} (hgd : o.guard = none) (s x : Operand)
    (ho : o.op = .call { callee := .builtin .append, args := #[s, x], argTypes := #[26, 26] })
    (base : Nat) (v : Value) (l : List Cause) (hown : OwnC W base v l) (hs : a.eval s = v)
    (b off m c : Nat) (news : List Cause) (hx : a.eval x = .slice (some ⟨b, off, none⟩) m c) (hm : news.length = m) (hnews : ∀ j, j < m → (nt news j).lies W b (off + j * 2))
    (hlen : l.length + m ≤ 1048576) (hbase : base ≤ W.heap.size)
    (h : ∀ v' w', OwnC w' base v' (l ++ news) → (∀ {B : Nat} {a : World}, B ≤ base → Below B a W → Below B a w') → W.heap.size ≤ w'.heap.size → wpList Tryz.prog ops Q rest (a.put o.dst v') w') :
    wpList Tryz.prog ops Q (o :: rest) a W := by
  obtain ⟨i, hi, hz0, hz1, hz2⟩ := info_parts info_Cause'
  obtain ⟨g, cap, rfl, hg, hr⟩ := hown
  refine wpList_append_own W hgd s x 26 ho base 33 i _ 2 16 Tryz.underlying26 hi hz0 hz1 hz2 rfl (by decide) _ _ _ hs hr ⟨b, off, none⟩ m c (cellsC news) hx (by rw [cellsC_len, hm]) (fun j u hj => ?_) cellsC_one
    (by unfold maxLen; omega) (by omega) hbase fun v' w' hown' hgr hnil => h v' w' ?_ ?_ hgr.size
  · have hlt : j < m * 2 := by
      obtain ⟨hlt, _⟩ := List.getElem?_eq_some_iff.1 hj
      rw [cellsC_len, hm] at hlt; exact hlt
    obtain ⟨h0, h1⟩ := cellsC_get (l := news) (j := j / 2) (by omega)
    obtain ⟨k0, k1⟩ := hnews (j / 2) (by omega)
    rw [add_plain]
    have hr : j % 2 < 2 := Nat.mod_lt _ (by omega)
    have e : j = j / 2 * 2 + j % 2 := by omega
    generalize j / 2 = q at *
    generalize j % 2 = r at *
    subst e
    match r, hr with
    | 0, _ => rw [Nat.add_zero] at hj ⊢; rw [h0] at hj; cases hj; exact k0
    | 1, _ => rw [h1] at hj; cases hj; rw [← Nat.add_assoc]; exact k1
  · rcases hown'.2 with ⟨hv, _⟩ | ⟨g', cap', cur, hv, hg', _⟩
    · have := (hnil.1 hv).1
      cases this
    · refine ⟨g', cap', by rw [hv, List.length_append, hm], hg', ?_⟩
      rw [hv] at hown'
      rw [List.length_append, hm, cellsC_append]
      exact hown'
  · intro B a hB hb
    refine hb.grown hgr (by omega) (fun k hk => ?_)
    simp [Value.ownBlock] at hk
    omega
/-- One cause is appended. -/
theorem wpList_appC1 (W : World) {ops : Array Oper} {rest : List Oper} {o : Oper} {a : Act} {Q : Exit → Act → World → Prop} (hgd : o.guard = none) (s x : Operand)
    (ho : o.op = .call { callee := .builtin .append, args := #[s, x], argTypes := #[26, 26] })
    (base : Nat) (v : Value) (l : List Cause) (hown : OwnC W base v l) (hs : a.eval s = v)
    (k n : Int) (b : Nat) (hx : a.eval x = .slice (some ⟨b, 0, none⟩) 1 1) (hbn : W.heap.size = b)
    (hlen : l.length ≤ 1000000) (hbase : base ≤ W.heap.size)
    (h : ∀ v' w', OwnC w' base v' (l ++ [⟨k, n⟩]) → (∀ {B : Nat} {a : World}, B ≤ base → Below B a W → Below B a w') → W.heap.size ≤ w'.heap.size → wpList Tryz.prog ops Q rest (a.put o.dst v') w') :
    wpList Tryz.prog ops Q (o :: rest) a (W.alloc (.cells #[.int .i64 k, .int .i64 n] 33)) := by
  subst hbn
  have hal : Below W.heap.size W (W.alloc (.cells #[.int .i64 k, .int .i64 n] 33)) := (Below.refl _ _).alloc (Nat.le_refl _) _
  refine wpList_appCS _ hgd s x ho base v l (hown.below hal) hs W.heap.size 0 1 1 [⟨k, n⟩] hx rfl (fun j hj => ?_) (by omega) (by simp; omega) fun v' w' h1 h2 h3 => h v' w' h1 (fun hB hb => h2 hB (hb.alloc (by omega) _)) (by simp at h3; omega)
  obtain rfl : j = 0 := by omega
  exact ⟨by simp; rfl, by simp; rfl⟩

/-- A list of causes that a call has made. -/
def CauseR (l : List Cause) (w : World) (e : Ending) (w' : World) : Prop :=
  ∃ A n c, e = .returned (.slice A n c) ∧ CauseS w' A n l ∧ Fz w' A ∧ Fresh w w' A ∧ Below w.heap.size w w'
/-- .. and a code. -/
def CauseC (l : List Cause) (code : Int) (w : World) (e : Ending) (w' : World) : Prop :=
  ∃ A n c, e = .returned (.tuple #[.slice A n c, .int .i64 code]) ∧ CauseS w' A n l ∧ Fz w' A ∧ Fresh w w' A ∧ Below w.heap.size w w'
theorem CauseC.none_ {code : Int} {w w' : World} (hb : Below w.heap.size w w') : CauseC [] code w (.returned (.tuple #[.slice none 0 0, .int .i64 code])) w' :=
  ⟨none, 0, 0, rfl, CauseS.nil _, Fz.none_ _, Fresh.none_ _ _, hb⟩
theorem row_facts {w w' : World} {g n : Nat} {l : List Cause} (h : RowFCause w' g n (nt l)) (hl : l.length = n) (hn : n ≤ 1048576) (hg : w.heap.size ≤ g) : CauseS w' (some ⟨g, 0, none⟩) n l ∧ Fz w' (some ⟨g, 0, none⟩) ∧ Fresh w w' (some ⟨g, 0, none⟩) :=
  ⟨h.S hl hn, Fz.mk_ h.frozen, fun a e => by simp only [Option.some.injEq] at e; subst e; exact ⟨hg, h.lt⟩⟩
theorem CauseR.row {l : List Cause} {w w' : World} {g n c : Nat} (h : RowFCause w' g n (nt l)) (hl : l.length = n) (hn : n ≤ 1048576) (hg : w.heap.size ≤ g) (hb : Below w.heap.size w w') : CauseR l w (.returned (.slice (some ⟨g, 0, none⟩) n c)) w' := by
  obtain ⟨h1, h2, h3⟩ := row_facts h hl hn hg
  exact ⟨_, _, _, rfl, h1, h2, h3, hb⟩
theorem CauseC.row {l : List Cause} {code : Int} {w w' : World} {g n c : Nat} (h : RowFCause w' g n (nt l)) (hl : l.length = n) (hn : n ≤ 1048576) (hg : w.heap.size ≤ g) (hb : Below w.heap.size w w') : CauseC l code w (.returned (.tuple #[.slice (some ⟨g, 0, none⟩) n c, .int .i64 code])) w' := by
  obtain ⟨h1, h2, h3⟩ := row_facts h hl hn hg
  exact ⟨_, _, _, rfl, h1, h2, h3, hb⟩
theorem CauseR.own {l : List Cause} {w w' : World} {base : Nat} {v : Value} (h : OwnC w' base v l) (hn : l.length ≤ 1048576) (hg : w.heap.size ≤ base) (hb : Below w.heap.size w w') : CauseR l w (.returned v) w' := by
  obtain ⟨g, cap, rfl, h1, h2, h3⟩ := h.row
  exact CauseR.row h3 rfl hn (by omega) hb
theorem CauseC.own {l : List Cause} {code : Int} {w w' : World} {base : Nat} {v : Value} (h : OwnC w' base v l) (hn : l.length ≤ 1048576) (hg : w.heap.size ≤ base) (hb : Below w.heap.size w w') : CauseC l code w (.returned (.tuple #[v, .int .i64 code])) w' := by
  obtain ⟨g, cap, rfl, h1, h2, h3⟩ := h.row
  exact CauseC.row h3 rfl hn (by omega) hb
end Go.Proofs.YtmapjepdcbpalaaGreatDoor
