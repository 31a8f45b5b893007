/- Causes of batches: the plain laws of their order. No function is walked here. -/
import Derived.Test.YtmapjepdcbpalaaGreatDoorB4
namespace Go.Proofs.YtmapjepdcbpalaaGreatDoor
open Go.RowKit
set_option linter.unusedVariables false

theorem Cause.ext' {a b : Cause} (h1 : a.Kind = b.Kind) (h2 : a.Number = b.Number) : a = b := by cases a; cases b; simp_all
theorem Cause.eqB_iff {a b : Cause} : Cause.eqB a b = true ↔ a = b := by
  simp only [Cause.eqB, Bool.and_eq_true, beq_iff_eq]
  exact ⟨fun h => Cause.ext' h.1 h.2, fun h => by subst h; exact ⟨rfl, rfl⟩⟩
theorem Cause.eqB_false {a b : Cause} : Cause.eqB a b = false ↔ a ≠ b := by
  rw [← Bool.not_eq_true, Cause.eqB_iff]

/-- The first m of all causes, in order. -/
def allC (m : Nat) : List Cause := (List.range m).map fun t => (⟨((t / 20 : Nat) : Int) + 1, ((t % 20 : Nat) : Int) + 1⟩ : Cause)
theorem allC_len (m : Nat) : (allC m).length = m := by simp [allC]
theorem allC_succ (m : Nat) : allC (m + 1) = allC m ++ [⟨((m / 20 : Nat) : Int) + 1, ((m % 20 : Nat) : Int) + 1⟩] := by simp [allC, List.range_succ]
theorem causeB_iff {c : Cause} : causeB c = true ↔ (1 ≤ c.Kind ∧ c.Kind ≤ 3) ∧ 1 ≤ c.Number ∧ c.Number ≤ 20 := by
  simp only [causeB, Bool.and_eq_true, inB_true]
theorem mem_allC {c : Cause} : c ∈ allC 60 ↔ causeB c = true := by
  rw [causeB_iff]
  constructor
  · intro h
    obtain ⟨t, ht, rfl⟩ := List.mem_map.1 h
    have := List.mem_range.1 ht
    refine ⟨⟨?_, ?_⟩, ?_, ?_⟩ <;> show _ ≤ _ <;> simp only [] <;> omega
  · rintro ⟨⟨h1, h2⟩, h3, h4⟩
    refine List.mem_map.2 ⟨((c.Kind - 1) * 20 + (c.Number - 1)).toNat, List.mem_range.2 (by omega), Cause.ext' ?_ ?_⟩
    · show _ = c.Kind
      simp only []; omega
    · show _ = c.Number
      simp only []; omega

/-- The order of causes. -/
def ltC (a b : Cause) : Bool := decide (a.Kind < b.Kind ∨ (a.Kind = b.Kind ∧ a.Number < b.Number))
theorem ltC_irrefl (a : Cause) : ltC a a = false := by simp [ltC]
theorem ltC_trans {a b c : Cause} (h1 : ltC a b = true) (h2 : ltC b c = true) : ltC a c = true := by
  simp only [ltC, decide_eq_true_eq] at *; omega
theorem ltC_ntrans {a b c : Cause} (h1 : ltC a b = false) (h2 : ltC b c = false) : ltC a c = false := by
  simp only [ltC, decide_eq_false_iff_not] at *; omega
theorem ltC_total {a b : Cause} (h1 : ltC a b = false) (h2 : ltC b a = false) : a = b := by
  simp only [ltC, decide_eq_false_iff_not] at *
  exact Cause.ext' (by omega) (by omega)
theorem ltC_asymm {a b : Cause} (h1 : ltC a b = true) : ltC b a = false := by
  simp only [ltC, decide_eq_true_eq, decide_eq_false_iff_not] at *; omega
theorem ltC_ne {a b : Cause} (h1 : ltC a b = true) : a ≠ b := by rintro rfl; rw [ltC_irrefl] at h1; cases h1

abbrev Rises (l : List Cause) : Prop := l.Pairwise fun a b => ltC a b = true
theorem allC_rises (m : Nat) : Rises (allC m) := by
  refine List.pairwise_map.2 (List.pairwise_lt_range.imp fun {a b} h => ?_)
  simp only [ltC, decide_eq_true_eq]; omega

/-- Two rising lists of the same causes are one. -/
theorem rises_ext : ∀ {l m : List Cause}, Rises l → Rises m → (∀ c, c ∈ l ↔ c ∈ m) → l = m
  | [], [], _, _, _ => rfl
  | [], b :: m, _, _, h => absurd ((h b).2 (by simp)) (by simp)
  | a :: l, [], _, _, h => absurd ((h a).1 (by simp)) (by simp)
  | a :: l, b :: m, hl, hm, h => by
    obtain ⟨hl1, hl2⟩ := List.pairwise_cons.1 hl
    obtain ⟨hm1, hm2⟩ := List.pairwise_cons.1 hm
    have e : a = b := by
      rcases List.mem_cons.1 ((h a).1 (by simp)) with h1 | h1
      · exact h1
      · rcases List.mem_cons.1 ((h b).2 (by simp)) with h2 | h2
        · exact h2.symm
        · have := ltC_asymm (hl1 b h2); rw [hm1 a h1] at this; cases this
    subst e
    rw [rises_ext hl2 hm2 fun c => ⟨fun hc => by
      rcases List.mem_cons.1 ((h c).1 (List.mem_cons_of_mem _ hc)) with h1 | h1
      · exact absurd h1.symm (ltC_ne (hl1 c hc))
      · exact h1, fun hc => by
      rcases List.mem_cons.1 ((h c).2 (List.mem_cons_of_mem _ hc)) with h1 | h1
      · exact absurd h1.symm (ltC_ne (hm1 c hc))
      · exact h1⟩]

/-- What is left of a sorted list if each cause stands once. -/
def cmpct (p : Cause) : List Cause → List Cause
  | [] => []
  | b :: l => if Cause.eqB b p = true then cmpct p l else b :: cmpct b l
def compactL : List Cause → List Cause
  | [] => []
  | a :: l => a :: cmpct a l
theorem cmpct_spec : ∀ (p : Cause) (l : List Cause), (p :: l).Pairwise (fun a b => ltC b a = false) → (∀ c, c ∈ cmpct p l ↔ c ∈ l ∧ c ≠ p) ∧ Rises (p :: cmpct p l)
  | p, [], _ => ⟨fun c => by simp [cmpct], by simp [cmpct, Rises]⟩
  | p, b :: l, h => by
    obtain ⟨h1, h2⟩ := List.pairwise_cons.1 h
    obtain ⟨h3, h4⟩ := List.pairwise_cons.1 h2
    by_cases e : Cause.eqB b p = true
    · have e' := Cause.eqB_iff.1 e
      subst e'
      obtain ⟨i1, i2⟩ := cmpct_spec b l h2
      rw [cmpct, if_pos e]
      refine ⟨fun c => ?_, i2⟩
      rw [i1 c, List.mem_cons]
      exact ⟨fun ⟨a, b⟩ => ⟨.inr a, b⟩, fun ⟨a, b⟩ => ⟨a.resolve_left b, b⟩⟩
    · rw [cmpct, if_neg e]
      have ne : b ≠ p := fun h => e (Cause.eqB_iff.2 h)
      have hpb : ltC p b = true := by
        rcases Bool.eq_false_or_eq_true (ltC p b) with h | h
        · exact h
        · exact absurd (ltC_total h (h1 b (by simp))) (Ne.symm ne)
      obtain ⟨i1, i2⟩ := cmpct_spec b l h2
      obtain ⟨i3, i4⟩ := List.pairwise_cons.1 i2
      have hp : ∀ c, c ∈ l → ltC p c = true := fun c hc => by
        rcases Bool.eq_false_or_eq_true (ltC b c) with h | h
        · exact ltC_trans hpb h
        · rw [← ltC_total h (h3 c hc)]; exact hpb
      refine ⟨fun c => ?_, List.pairwise_cons.2 ⟨fun c hc => ?_, i2⟩⟩
      · rw [List.mem_cons, List.mem_cons, i1 c]
        constructor
        · rintro (rfl | ⟨a, b⟩)
          · exact ⟨.inl rfl, ne⟩
          · exact ⟨.inr a, (ltC_ne (hp c a)).symm⟩
        · rintro ⟨rfl | a, b'⟩
          · exact .inl rfl
          · by_cases q : c = b
            · exact .inl q
            · exact .inr ⟨a, q⟩
      · rcases List.mem_cons.1 hc with rfl | hc
        · exact hpb
        · exact hp c ((i1 c).1 hc).1
theorem compactL_spec {l : List Cause} (h : l.Pairwise (fun a b => ltC b a = false)) : (∀ c, c ∈ compactL l ↔ c ∈ l) ∧ Rises (compactL l) := by
  cases l with
  | nil => exact ⟨fun c => Iff.rfl, List.Pairwise.nil⟩
  | cons a l =>
    obtain ⟨h1, h2⟩ := cmpct_spec a l h
    refine ⟨fun c => ?_, h2⟩
    rw [compactL, List.mem_cons, List.mem_cons, h1 c]
    by_cases e : c = a
    · simp [e]
    · simp [e]

/-- Has some batch a cause? -/
def anyHas (xs : List Batch) (c : Cause) : Bool := xs.any fun b => hasB b c
/-- All causes that some batch has, in order. -/
def inL (xs : List Batch) : List Cause := (allC 60).filter (anyHas xs)
theorem okB_mem {b : Batch} (h : b.okB = true) {c : Cause} (hc : c ∈ causesL b) : causeB c = true := by
  simp only [Batch.okB, Bool.and_eq_true, inB_true] at h
  rw [causeB_iff]
  simp only [causesL, List.mem_cons, List.not_mem_nil, or_false] at hc
  rcases hc with rfl | rfl | rfl <;> simp only [] <;> omega
theorem mem_causesL {b : Batch} {c : Cause} (hc : causeB c = true) : c ∈ causesL b ↔ hasB b c = true := by
  rw [← has_eq hc, List.any_eq_true]
  constructor
  · intro h; exact ⟨c, h, Cause.eqB_iff.2 rfl⟩
  · rintro ⟨x, hx, e⟩
    rw [Cause.eqB_iff.1 e]; exact hx
/-- A sorted list of the batches' causes, each once: all causes that some batch has. -/
theorem inL_of_sorted {xs : List Batch} (hok : ∀ b ∈ xs, b.okB = true) {l : List Cause} (hl : l.Pairwise (fun a b => ltC b a = false)) (hm : ∀ c, c ∈ l ↔ ∃ b ∈ xs, c ∈ causesL b) : compactL l = inL xs := by
  obtain ⟨h1, h2⟩ := compactL_spec hl
  refine rises_ext h2 ((allC_rises 60).filter _) fun c => ?_
  rw [h1 c, hm c, inL, List.mem_filter, mem_allC, anyHas, List.any_eq_true]
  constructor
  · rintro ⟨b, hb, hc⟩
    have := okB_mem (hok b hb) hc
    exact ⟨this, b, hb, (mem_causesL this).1 hc⟩
  · rintro ⟨hc, b, hb, h⟩
    exact ⟨b, hb, (mem_causesL hc).2 h⟩
theorem inL_len (xs : List Batch) : (inL xs).length ≤ 60 := Nat.le_trans (List.length_filter_le _ _) (by rw [allC_len]; exact Nat.le_refl _)
theorem inL_ok {xs : List Batch} {c : Cause} (h : c ∈ inL xs) : causeB c = true := mem_allC.1 (List.mem_filter.1 h).1
end Go.Proofs.YtmapjepdcbpalaaGreatDoor
