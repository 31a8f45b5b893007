/- The fewest causes of drawn batches: the plain law of FnCauses. No function is walked here. -/
import Derived.Test.YtmapjepdcbpalaaGreatDoorBF
namespace Go.Proofs.YtmapjepdcbpalaaGreatDoor
open Go.RowKit
set_option linter.unusedVariables false

theorem not_true_false {b : Bool} (h : ¬ b = true) : b = false := by cases b <;> simp_all
/-- There is a best set wherever all causes together explain. -/
theorem found_all (bs : List Batch) (p : List Cause) : ∀ m, ∃ f best, Found bs p m f best
  | 0 => ⟨false, [], Found.start bs p⟩
  | m + 1 => by
    obtain ⟨f, best, h⟩ := found_all bs p m
    by_cases he : exB bs (subK p m p.length) = true
    · cases f with
      | false => exact ⟨true, _, h.yes he (fun h => by cases h)⟩
      | true =>
        by_cases hp : passB (subK p m p.length) best = true
        · exact ⟨true, best, h.pass hp⟩
        · exact ⟨true, _, h.yes he (fun _ => not_true_false hp)⟩
    · exact ⟨f, best, h.no (not_true_false he)⟩
theorem best_of_ex {bs : List Batch} {p : List Cause} (h : exB bs p = true) : ∃ s, Best bs p s := by
  obtain ⟨f, best, hf⟩ := found_all bs p (2 ^ p.length)
  cases f with
  | true => exact ⟨best, hf.best⟩
  | false => rw [hf.none] at h; cases h
theorem fcL_best {xs : List Batch} (h : fcC xs = 0) : Best (badsOf xs) (posL xs) (fcL xs) := by
  have he : exB (badsOf xs) (posL xs) = true := by
    refine Classical.byContradiction fun hn => ?_
    rw [fcC] at h
    by_cases h0 : codeB xs = 0
    · rw [if_pos h0] at h
      by_cases h1 : (posL xs).length ≤ 16
      · rw [if_pos h1, if_neg hn] at h; cases h
      · rw [if_neg h1] at h; cases h
    · rw [if_neg h0] at h; exact h0 h
  obtain ⟨s, hs⟩ := best_of_ex he
  rw [fcL, if_pos h, bestL_eq hs]
  exact hs
theorem fcC_zero {xs : List Batch} (h : fcC xs = 0) : codeB xs = 0 ∧ (posL xs).length ≤ 16 := by
  rw [fcC] at h
  by_cases h0 : codeB xs = 0
  · rw [if_pos h0] at h
    by_cases h1 : (posL xs).length ≤ 16
    · exact ⟨h0, h1⟩
    · rw [if_neg h1] at h; cases h
  · rw [if_neg h0] at h; exact absurd h h0

/-- Batches as the draws make them. -/
def smallB (b : Batch) : Bool := inB b.Clay 1 3 && (inB b.Mould 1 4 && inB b.Chamber 1 5)
theorem smallB_iff {b : Batch} : smallB b = true ↔ (1 ≤ b.Clay ∧ b.Clay ≤ 3) ∧ (1 ≤ b.Mould ∧ b.Mould ≤ 4) ∧ (1 ≤ b.Chamber ∧ b.Chamber ≤ 5) := by
  simp only [smallB, Bool.and_eq_true, inB_true]
theorem small_ok {b : Batch} (h : smallB b = true) : b.okB = true := by
  have := smallB_iff.1 h
  simp only [Batch.okB, Bool.and_eq_true, inB_true]; omega
theorem small_batches {xs : List Batch} (h : ∀ b ∈ xs, smallB b = true) (hl : xs.length ≤ 40) : batchesOk xs = true := by
  rw [batchesOk, Bool.and_eq_true, List.all_eq_true]
  exact ⟨fun b hb => small_ok (h b hb), decide_eq_true hl⟩
def smallC (c : Cause) : Bool := decide ((c.Kind = 1 ∧ c.Number ≤ 3) ∨ (c.Kind = 2 ∧ c.Number ≤ 4) ∨ (c.Kind = 3 ∧ c.Number ≤ 5))
theorem has_small {b : Batch} {c : Cause} (hb : smallB b = true) (hc : causeB c = true) (h : hasB b c = true) : smallC c = true := by
  obtain ⟨⟨k1, k2⟩, n1, n2⟩ := causeB_iff.1 hc
  obtain ⟨⟨a1, a2⟩, ⟨b1, b2⟩, c1, c2⟩ := smallB_iff.1 hb
  rw [smallC, decide_eq_true_eq]
  rw [hasB] at h
  by_cases e1 : c.Kind = 1
  · rw [if_pos e1] at h; have := beq_iff_eq.1 h; left; omega
  · rw [if_neg e1] at h
    by_cases e2 : c.Kind = 2
    · rw [if_pos e2] at h; have := beq_iff_eq.1 h; right; left; omega
    · rw [if_neg e2] at h; have := beq_iff_eq.1 h; right; right; omega
theorem small_all : ((allC 60).filter smallC).length = 12 := by decide +kernel
theorem filter_len_le {α : Type} {p q : α → Bool} : ∀ {l : List α}, (∀ x ∈ l, p x = true → q x = true) → (l.filter p).length ≤ (l.filter q).length
  | [], _ => Nat.le_refl _
  | a :: l, h => by
    have ih := filter_len_le (l := l) fun x hx => h x (List.mem_cons_of_mem _ hx)
    by_cases hp : p a = true
    · rw [List.filter_cons_of_pos hp, List.filter_cons_of_pos (h a (by simp) hp), List.length_cons, List.length_cons]; omega
    · rw [List.filter_cons_of_neg hp]
      by_cases hq : q a = true
      · rw [List.filter_cons_of_pos hq, List.length_cons]; omega
      · rw [List.filter_cons_of_neg hq]; exact ih
theorem bads_sub {xs : List Batch} {b : Batch} (h : b ∈ badsOf xs) : b ∈ xs ∧ b.Bad = true := List.mem_filter.1 h
theorem mem_inL {xs : List Batch} {c : Cause} : c ∈ inL xs ↔ causeB c = true ∧ ∃ b ∈ xs, hasB b c = true := by
  rw [inL, List.mem_filter, mem_allC, anyHas, List.any_eq_true]
theorem mem_posL {xs : List Batch} {c : Cause} : c ∈ posL xs ↔ (causeB c = true ∧ ∃ b ∈ badsOf xs, hasB b c = true) ∧ ∀ b ∈ goodsOf xs, hasB b c = false := by
  rw [posL, List.mem_filter, mem_inL, Bool.not_eq_true', List.any_eq_false]
  simp only [Bool.not_eq_true]
theorem small_pos {xs : List Batch} (h : ∀ b ∈ xs, smallB b = true) : (posL xs).length ≤ 16 := by
  have h1 : (posL xs).length ≤ (inL (badsOf xs)).length := List.length_filter_le _ _
  have h2 : (inL (badsOf xs)).length ≤ ((allC 60).filter smallC).length := by
    refine filter_len_le fun c hc hh => ?_
    obtain ⟨b, hb, hbc⟩ := List.any_eq_true.1 hh
    exact has_small (h b (bads_sub hb).1) (mem_allC.1 hc) hbc
  rw [small_all] at h2
  omega

/-- Every batch: bad just where a cause is one of its. -/
theorem aeB_iff {xs : List Batch} {cs : List Cause} : aeB xs cs = true ↔ ∀ b ∈ xs, b.Bad = cs.any (hasB b) := by
  rw [aeB, List.all_eq_true]
  refine ⟨fun h b hb => by have := h b hb; cases hB : b.Bad <;> cases hC : cs.any (hasB b) <;> simp_all, fun h b hb => by rw [h b hb]; cases cs.any (hasB b) <;> rfl⟩
theorem ae_pos {xs : List Batch} {cs : List Cause} (hc : ∀ c ∈ cs, causeB c = true) (h : aeB xs cs = true) : exB (badsOf xs) ((posL xs).filter fun c => cs.any (Cause.eqB c)) = true := by
  rw [aeB_iff] at h
  rw [exB, List.all_eq_true]
  intro b hb
  obtain ⟨hb1, hb2⟩ := bads_sub hb
  have h1 := h b hb1
  rw [hb2] at h1
  obtain ⟨c, hcm, hbc⟩ := List.any_eq_true.1 h1.symm
  rw [List.any_eq_true]
  refine ⟨c, List.mem_filter.2 ⟨mem_posL.2 ⟨⟨hc c hcm, b, hb, hbc⟩, fun g hg => ?_⟩, List.any_eq_true.2 ⟨c, hcm, Cause.eqB_iff.2 rfl⟩⟩, hbc⟩
  obtain ⟨hg1, hg2⟩ := List.mem_filter.1 hg
  have h2 := h g hg1
  rw [Bool.not_eq_true'] at hg2
  rw [hg2] at h2
  exact not_true_false ((List.any_eq_false.1 h2.symm) c hcm)
theorem rises_nodup {l : List Cause} (h : Rises l) : l.Nodup := List.Pairwise.imp (fun {a b} h => ltC_ne h) h
theorem nodup_len {α : Type} : ∀ {l m : List α}, l.Nodup → (∀ x ∈ l, x ∈ m) → l.length ≤ m.length
  | [], _, _, _ => Nat.zero_le _
  | a :: l, m, hn, h => by
    obtain ⟨h1, h2⟩ := List.nodup_cons.1 hn
    obtain ⟨s, t, rfl⟩ := List.append_of_mem (h a (by simp))
    have ih := nodup_len (l := l) (m := s ++ t) h2 fun x hx => by
      have := h x (List.mem_cons_of_mem _ hx)
      simp only [List.mem_append, List.mem_cons] at this ⊢
      rcases this with k | k | k
      · exact .inl k
      · subst k; exact absurd hx h1
      · exact .inr k
    simp only [List.length_append, List.length_cons] at ih ⊢
    omega
theorem few_le {xs : List Batch} {cs : List Cause} (h : fcC xs = 0) (hc : ∀ c ∈ cs, causeB c = true) (ha : aeB xs cs = true) : (fcL xs).length ≤ cs.length := by
  have hB := fcL_best h
  have h1 := hB.2.2 _ List.filter_sublist (ae_pos hc ha)
  have h2 : ((posL xs).filter fun c => cs.any (Cause.eqB c)).length ≤ cs.length :=
    nodup_len ((rises_nodup (posL_rises xs)).sublist List.filter_sublist) fun c hh => by
      obtain ⟨d, hd, e⟩ := List.any_eq_true.1 (List.mem_filter.1 hh).2
      rw [Cause.eqB_iff.1 e]; exact hd
  rcases h1 with h1 | ⟨h1, _⟩ <;> omega
theorem few_pos {xs : List Batch} {c : Cause} (h : fcC xs = 0) (hc : c ∈ fcL xs) : c ∈ posL xs := (fcL_best h).1.subset hc
theorem few_ok {xs : List Batch} (h : fcC xs = 0) : ∀ c ∈ fcL xs, causeB c = true := fun c hc => (mem_posL.1 (few_pos h hc)).1.1
theorem few_len {xs : List Batch} (h : fcC xs = 0) : (fcL xs).length ≤ 16 := Nat.le_trans (fcL_best h).1.length_le (fcC_zero h).2
theorem few_ne {xs : List Batch} (h : fcC xs = 0) : 1 ≤ (fcL xs).length := by
  refine Classical.byContradiction fun hn => ?_
  have h0 : fcL xs = [] := List.length_eq_zero_iff.1 (by omega)
  have h1 := (fcL_best h).2.1
  rw [h0, bads_ne (codeB_ok (fcC_zero h).1).2] at h1
  cases h1
theorem few_is {xs : List Batch} (h : fcC xs = 0) : aeB xs (fcL xs) = true := by
  have hB := fcL_best h
  rw [aeB_iff]
  intro b hb
  rcases Bool.eq_false_or_eq_true b.Bad with e | e
  · have := List.all_eq_true.1 hB.2.1 b (List.mem_filter.2 ⟨hb, e⟩)
    rw [this, e]
  · rw [e]
    symm
    rw [List.any_eq_false]
    intro c hc
    rw [Bool.not_eq_true]
    exact (mem_posL.1 (few_pos h hc)).2 b (List.mem_filter.2 ⟨hb, by rw [e]; rfl⟩)
theorem few_code {xs : List Batch} (h : fcC xs = 0) : aeC xs (fcL xs) = 0 := by
  rw [aeC, if_pos (codeB_ok (fcC_zero h).1).1, if_pos]
  rw [Bool.and_eq_true, List.all_eq_true]
  exact ⟨few_ok h, decide_eq_true (by have := few_len h; omega)⟩
theorem few_val {xs : List Batch} (h : fcC xs = 0) : aeV xs (fcL xs) = true := by
  rw [aeV, if_pos (few_code h), few_is h]
theorem drawn_code {xs : List Batch} {cs : List Cause} (hx : batchesOk xs = true) (hc : ∀ c ∈ cs, causeB c = true) (hl : cs.length ≤ 60) : aeC xs cs = 0 ∧ aeV xs cs = aeB xs cs := by
  have h : aeC xs cs = 0 := by
    rw [aeC, if_pos hx, if_pos]
    rw [Bool.and_eq_true, List.all_eq_true]
    exact ⟨hc, decide_eq_true hl⟩
  exact ⟨h, by rw [aeV, if_pos h]⟩
theorem fcC_cases {xs : List Batch} (hx : ∀ b ∈ xs, smallB b = true) (hl : xs.length ≤ 40) : fcC xs = 0 ∨ fcC xs = 3 ∨ (fcC xs = 9 ∧ ∀ cs : List Cause, (∀ c ∈ cs, causeB c = true) → aeB xs cs = false) := by
  have hok := small_batches hx hl
  rw [fcC]
  by_cases h0 : codeB xs = 0
  · rw [if_pos h0, if_pos (small_pos hx)]
    by_cases he : exB (badsOf xs) (posL xs) = true
    · left; rw [if_pos he]
    · right; right
      rw [if_neg he]
      refine ⟨rfl, fun cs hc => not_true_false fun ha => he ?_⟩
      exact exB_mono (ae_pos hc ha) fun c hc => (List.mem_filter.1 hc).1
  · rw [if_neg h0]
    right; left
    rw [codeB, if_pos hok] at h0 ⊢
    by_cases h1 : xs.any (·.Bad) = true
    · rw [if_pos h1] at h0; exact absurd rfl h0
    · rw [if_neg h1]
theorem mem_comL {xs : List Batch} {c : Cause} : c ∈ comL xs ↔ (causeB c = true ∧ ∃ b ∈ badsOf xs, hasB b c = true) ∧ ∀ b ∈ badsOf xs, hasB b c = true := by
  rw [comL, List.mem_filter, mem_inL, Bool.not_eq_true', List.any_eq_false]
  refine and_congr_right fun _ => forall_congr' fun b => forall_congr' fun hb => ?_
  cases hasB b c <;> simp
/-- Some cause is common and possible. -/
def singleB (xs : List Batch) : Bool := (comL xs).any fun c => (posL xs).any (Cause.eqB c)
theorem single_iff {xs : List Batch} (h : fcC xs = 0) : singleB xs = decide ((fcL xs).length = 1) := by
  have hB := fcL_best h
  rw [Bool.eq_iff_iff, decide_eq_true_eq, singleB, List.any_eq_true]
  constructor
  · rintro ⟨c, hc, hp⟩
    obtain ⟨d, hd, e⟩ := List.any_eq_true.1 hp
    rw [← Cause.eqB_iff.1 e] at hd
    have h1 : exB (badsOf xs) [c] = true := by
      rw [exB, List.all_eq_true]
      intro b hb
      simpa using (mem_comL.1 hc).2 b hb
    have h2 := hB.2.2 [c] (List.singleton_sublist.2 hd) h1
    have h3 := few_ne h
    have h4 : (fcL xs).length ≤ [c].length := by rcases h2 with h2 | ⟨h2, _⟩ <;> omega
    simp at h4
    omega
  · intro h1
    obtain ⟨c, hc⟩ := List.length_eq_one_iff.1 h1
    have hm : c ∈ posL xs := few_pos h (by rw [hc]; simp)
    refine ⟨c, mem_comL.2 ⟨(mem_posL.1 hm).1, fun b hb => ?_⟩, List.any_eq_true.2 ⟨c, hm, Cause.eqB_iff.2 rfl⟩⟩
    have := List.all_eq_true.1 hB.2.1 b hb
    rw [hc] at this
    simpa using this
end Go.Proofs.YtmapjepdcbpalaaGreatDoor
