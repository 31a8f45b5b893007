/- The fewest causes: the plain laws of the two searches. No function is walked here. -/
import Derived.Test.YtmapjepdcbpalaaGreatDoorCQ2
namespace Go.Proofs.YtmapjepdcbpalaaGreatDoor
open Go.RowKit
set_option linter.unusedVariables false

/-- Is bit i of a number set? -/
def bitB (m i : Nat) : Bool := m / 2 ^ i % 2 == 1
/-- Those of the first k causes whose bit is set. -/
def subK (p : List Cause) (m : Nat) : Nat → List Cause
  | 0 => []
  | k + 1 => subK p m k ++ (if bitB m k = true then [nt p k] else [])
theorem subK_yes {p : List Cause} {m k : Nat} (h : bitB m k = true) : subK p m (k + 1) = subK p m k ++ [nt p k] := by rw [subK, if_pos h]
theorem subK_no {p : List Cause} {m k : Nat} (h : bitB m k = false) : subK p m (k + 1) = subK p m k := by rw [subK, h]; simp
theorem subK_len (p : List Cause) (m : Nat) : ∀ k, (subK p m k).length ≤ k := by
  intro k
  induction k with
  | zero => simp [subK]
  | succ k ih => rw [subK, List.length_append]; split <;> simp <;> omega
theorem subK_sub {p : List Cause} {m : Nat} : ∀ {k : Nat}, k ≤ p.length → (subK p m k).Sublist (p.take k)
  | 0, _ => by simp [subK]
  | k + 1, h => by
    rw [subK, take_snoc_nt (by omega)]
    refine (subK_sub (by omega)).append ?_
    split
    · exact List.Sublist.refl _
    · exact List.nil_sublist _
theorem bitB_low {m i k : Nat} (h : i < k) (hm : m < 2 ^ k) : bitB (m + 2 ^ k) i = bitB m i := by
  obtain ⟨d, rfl⟩ : ∃ d, k = i + 1 + d := ⟨k - (i + 1), by omega⟩
  have e : (m + 2 ^ (i + 1 + d)) / 2 ^ i = m / 2 ^ i + 2 * 2 ^ d := by
    rw [show 2 ^ (i + 1 + d) = 2 ^ i * (2 * 2 ^ d) by rw [Nat.pow_add, Nat.pow_succ, Nat.mul_assoc]]
    rw [Nat.add_mul_div_left _ _ (Nat.pow_pos (by omega))]
  rw [bitB, bitB, e, Nat.add_mul_mod_self_left]
theorem bitB_top {m k : Nat} (hm : m < 2 ^ k) : bitB (m + 2 ^ k) k = true := by
  have h : (m + 2 ^ k) / 2 ^ k = 1 := by
    rw [Nat.add_div_right _ (Nat.pow_pos (by omega)), Nat.div_eq_of_lt hm]
  rw [bitB, h]; rfl
theorem bitB_none {m k : Nat} (hm : m < 2 ^ k) : bitB m k = false := by
  rw [bitB, Nat.div_eq_of_lt hm]; rfl
theorem subK_congr {p : List Cause} {m m' : Nat} : ∀ {k : Nat}, (∀ i, i < k → bitB m i = bitB m' i) → subK p m k = subK p m' k
  | 0, _ => rfl
  | k + 1, h => by rw [subK, subK, subK_congr (fun i hi => h i (by omega)), h k (by omega)]
/-- Each part of the first k causes is told by a number. -/
theorem sub_subK {p : List Cause} : ∀ {k : Nat} {s : List Cause}, k ≤ p.length → s.Sublist (p.take k) → ∃ m, m < 2 ^ k ∧ subK p m k = s
  | 0, s, _, h => ⟨0, by simp, by rw [List.take_zero] at h; rw [List.sublist_nil.1 h]; rfl⟩
  | k + 1, s, hk, h => by
    rw [take_snoc_nt (by omega)] at h
    obtain ⟨s1, s2, rfl, h1, h2⟩ := List.sublist_append_iff.1 h
    obtain ⟨m, hm, e⟩ := sub_subK (by omega) h1
    have hp : 2 ^ (k + 1) = 2 ^ k + 2 ^ k := by rw [Nat.pow_succ]; omega
    cases h2 with
    | cons _ h3 =>
      rw [List.sublist_nil.1 h3, List.append_nil]
      exact ⟨m, by omega, by rw [subK_no (bitB_none hm), e]⟩
    | cons_cons _ h3 =>
      rw [List.sublist_nil.1 h3]
      exact ⟨m + 2 ^ k, by omega, by rw [subK_yes (bitB_top hm), subK_congr (fun i hi => bitB_low hi hm), e]⟩

/-- The order of lists of causes, as slices.CompareFunc tells it. -/
def cmpC (a b : Cause) : Int := if ltC a b = true then -1 else if ltC b a = true then 1 else 0
def cmpL : List Cause → List Cause → Int
  | [], [] => 0
  | [], _ :: _ => -1
  | _ :: _, [] => 1
  | a :: l, b :: m => if cmpC a b = 0 then cmpL l m else cmpC a b
theorem cmpC_zero {a b : Cause} : cmpC a b = 0 ↔ a = b := by
  unfold cmpC
  constructor
  · intro h
    split at h
    · cases h
    · split at h
      · cases h
      · exact ltC_total (by simp_all) (by simp_all)
  · rintro rfl; rw [ltC_irrefl]; rfl
theorem cmpC_neg {a b : Cause} : cmpC a b < 0 ↔ ltC a b = true := by
  unfold cmpC
  constructor
  · intro h
    split at h
    · assumption
    · split at h <;> omega
  · intro h; rw [if_pos h]; omega
theorem cmpC_pos {a b : Cause} : 0 < cmpC a b ↔ ltC b a = true := by
  unfold cmpC
  constructor
  · intro h
    split at h
    · omega
    · split at h
      · assumption
      · omega
  · intro h; rw [if_neg (by rw [ltC_asymm h]; simp), if_pos h]; omega
theorem cmpL_self : ∀ (l : List Cause), cmpL l l = 0
  | [] => rfl
  | a :: l => by rw [cmpL, if_pos (cmpC_zero.2 rfl), cmpL_self l]
theorem cmpL_antisymm : ∀ {l m : List Cause}, cmpL l m ≤ 0 → cmpL m l ≤ 0 → l = m
  | [], [], _, _ => rfl
  | [], _ :: _, _, h => by simp [cmpL] at h
  | _ :: _, [], h, _ => by simp [cmpL] at h
  | a :: l, b :: m, h, k => by
    rw [cmpL] at h k
    by_cases e : a = b
    · subst e
      rw [if_pos (cmpC_zero.2 rfl)] at h k
      rw [cmpL_antisymm h k]
    · rw [if_neg (fun h => e (cmpC_zero.1 h))] at h
      rw [if_neg (fun h => e (cmpC_zero.1 h).symm)] at k
      have h1 : ltC a b = true := by
        rw [← cmpC_neg]; have : ¬ cmpC a b = 0 := fun h => e (cmpC_zero.1 h); omega
      have h2 : ltC b a = true := by
        rw [← cmpC_neg]; have : ¬ cmpC b a = 0 := fun h => e (cmpC_zero.1 h).symm; omega
      rw [ltC_asymm h1] at h2; cases h2
theorem cmpL_trans : ∀ {l m q : List Cause}, cmpL l m ≤ 0 → cmpL m q ≤ 0 → cmpL l q ≤ 0
  | [], _, [], _, _ => by simp [cmpL]
  | [], _, _ :: _, _, _ => by simp [cmpL]
  | _ :: _, [], _, h, _ => by simp [cmpL] at h
  | _ :: _, _ :: _, [], _, h => by simp [cmpL] at h
  | a :: l, b :: m, c :: q, h, k => by
    rw [cmpL] at *
    by_cases e : a = b
    · subst e
      rw [if_pos (cmpC_zero.2 rfl)] at h
      by_cases f : a = c
      · subst f
        rw [if_pos (cmpC_zero.2 rfl)] at k ⊢
        exact cmpL_trans h k
      · rw [if_neg (fun h => f (cmpC_zero.1 h))] at k ⊢
        exact k
    · rw [if_neg (fun h => e (cmpC_zero.1 h))] at h
      have h1 : ltC a b = true := by
        rw [← cmpC_neg]; have : ¬ cmpC a b = 0 := fun h => e (cmpC_zero.1 h); omega
      have h2 : ltC a c = true := by
        by_cases f : b = c
        · rw [← f]; exact h1
        · rw [if_neg (fun h => f (cmpC_zero.1 h))] at k
          refine ltC_trans h1 ?_
          rw [← cmpC_neg]; have : ¬ cmpC b c = 0 := fun h => f (cmpC_zero.1 h); omega
      have h3 := cmpC_neg.2 h2
      rw [if_neg (by omega)]; omega
theorem cmpL_total : ∀ {l m : List Cause}, 0 < cmpL l m → cmpL m l ≤ 0
  | [], [], h => by simp [cmpL]
  | [], _ :: _, h => by simp [cmpL] at h
  | _ :: _, [], _ => by simp [cmpL]
  | a :: l, b :: m, h => by
    rw [cmpL] at *
    by_cases e : a = b
    · subst e
      rw [if_pos (cmpC_zero.2 rfl)] at h ⊢
      exact cmpL_total h
    · rw [if_neg (fun h => e (cmpC_zero.1 h))] at h
      rw [if_neg (fun h => e (cmpC_zero.1 h).symm)]
      have := cmpC_neg.2 (cmpC_pos.1 h); omega
theorem cmpL_append (b : List Cause) (l m : List Cause) : cmpL (b ++ l) (b ++ m) = cmpL l m := by
  induction b with
  | nil => rfl
  | cons a b ih => rw [List.cons_append, List.cons_append, cmpL, if_pos (cmpC_zero.2 rfl), ih]

/-- Not worse: fewer, or as many and not behind. -/
def leL (s t : List Cause) : Prop := s.length < t.length ∨ (s.length = t.length ∧ cmpL s t ≤ 0)
theorem leL_refl (s : List Cause) : leL s s := .inr ⟨rfl, by rw [cmpL_self]; exact Int.le_refl _⟩
theorem leL_trans {s t u : List Cause} (h : leL s t) (k : leL t u) : leL s u := by
  rcases h with h | ⟨h, h'⟩ <;> rcases k with k | ⟨k, k'⟩
  · exact .inl (by omega)
  · exact .inl (by omega)
  · exact .inl (by omega)
  · exact .inr ⟨by omega, cmpL_trans h' k'⟩
theorem leL_antisymm {s t : List Cause} (h : leL s t) (k : leL t s) : s = t := by
  rcases h with h | ⟨h, h'⟩ <;> rcases k with k | ⟨k, k'⟩
  · omega
  · omega
  · omega
  · exact cmpL_antisymm h' k'
/-- Does the program pass a set by? -/
def passB (own best : List Cause) : Bool := decide (best.length < own.length) || (decide (own.length = best.length) && decide (0 < cmpL own best))
theorem pass_le {own best : List Cause} (h : passB own best = true) : leL best own := by
  simp only [passB, Bool.or_eq_true, Bool.and_eq_true, decide_eq_true_eq] at h
  rcases h with h | ⟨h, h'⟩
  · exact .inl h
  · exact .inr ⟨h.symm, cmpL_total h'⟩
theorem pass_no {own best : List Cause} (h : passB own best = false) : leL own best := by
  simp only [passB, Bool.or_eq_false_iff, Bool.and_eq_false_iff, decide_eq_false_iff_not] at h
  obtain ⟨h1, h2⟩ := h
  rcases h2 with h2 | h2
  · exact .inl (by omega)
  · by_cases e : own.length = best.length
    · exact .inr ⟨e, by omega⟩
    · exact .inl (by omega)

/-- Has each batch one of some causes? -/
def exB (bs : List Batch) (s : List Cause) : Bool := bs.all fun b => s.any (hasB b)
/-- The fewest causes, the first of them. -/
def Best (bs : List Batch) (p s : List Cause) : Prop := s.Sublist p ∧ exB bs s = true ∧ ∀ t : List Cause, t.Sublist p → exB bs t = true → leL s t
theorem Best.uniq {bs : List Batch} {p s t : List Cause} (h : Best bs p s) (k : Best bs p t) : s = t :=
  leL_antisymm (h.2.2 t k.1 k.2.1) (k.2.2 s h.1 h.2.1)

/-- The program's search: the best of the sets below m. -/
def Found (bs : List Batch) (p : List Cause) (m : Nat) (found : Bool) (best : List Cause) : Prop :=
  (found = true → best.Sublist p ∧ exB bs best = true) ∧ ∀ t, t < m → exB bs (subK p t p.length) = true → found = true ∧ leL best (subK p t p.length)
theorem Found.start (bs : List Batch) (p : List Cause) : Found bs p 0 false [] := ⟨(fun h => by cases h), fun t ht => absurd ht (by omega)⟩
theorem Found.pass {bs : List Batch} {p : List Cause} {m : Nat} {best : List Cause} (h : Found bs p m true best) (hp : passB (subK p m p.length) best = true) : Found bs p (m + 1) true best :=
  ⟨h.1, fun t ht he => by
    rcases Nat.lt_or_ge t m with hlt | hge
    · exact h.2 t hlt he
    · obtain rfl : t = m := by omega
      exact ⟨rfl, pass_le hp⟩⟩
theorem Found.no {bs : List Batch} {p : List Cause} {m : Nat} {f : Bool} {best : List Cause} (h : Found bs p m f best) (hp : exB bs (subK p m p.length) = false) : Found bs p (m + 1) f best :=
  ⟨h.1, fun t ht he => by
    rcases Nat.lt_or_ge t m with hlt | hge
    · exact h.2 t hlt he
    · obtain rfl : t = m := by omega
      rw [hp] at he; cases he⟩
theorem Found.yes {bs : List Batch} {p : List Cause} {m : Nat} {f : Bool} {best : List Cause} (h : Found bs p m f best) (he : exB bs (subK p m p.length) = true) (hp : f = true → passB (subK p m p.length) best = false) : Found bs p (m + 1) true (subK p m p.length) :=
  ⟨fun _ => ⟨by have := subK_sub (p := p) (m := m) (Nat.le_refl p.length); rwa [List.take_length] at this, he⟩, fun t ht ht' => by
    rcases Nat.lt_or_ge t m with hlt | hge
    · obtain ⟨h1, h2⟩ := h.2 t hlt ht'
      exact ⟨rfl, leL_trans (pass_no (hp h1)) h2⟩
    · obtain rfl : t = m := by omega
      exact ⟨rfl, leL_refl _⟩⟩
theorem Found.best {bs : List Batch} {p : List Cause} {best : List Cause} (h : Found bs p (2 ^ p.length) true best) : Best bs p best :=
  ⟨(h.1 rfl).1, (h.1 rfl).2, fun t ht he => by
    rw [← List.take_length (l := p)] at ht
    obtain ⟨m, hm, e⟩ := sub_subK (Nat.le_refl _) ht
    rw [← e] at he ⊢
    exact (h.2 m hm he).2⟩
theorem Found.none {bs : List Batch} {p : List Cause} {best : List Cause} (h : Found bs p (2 ^ p.length) false best) : exB bs p = false := by
  rcases Bool.eq_false_or_eq_true (exB bs p) with g | g
  · obtain ⟨m, hm, e⟩ := sub_subK (p := p) (s := p) (Nat.le_refl _) (by rw [List.take_length]; exact List.Sublist.refl _)
    rw [← e] at g
    exact absurd (h.2 m hm g).1 (by simp)
  · exact g
theorem exB_mono {bs : List Batch} {s t : List Cause} (h : exB bs s = true) (hst : ∀ c, c ∈ s → c ∈ t) : exB bs t = true := by
  simp only [exB, List.all_eq_true, List.any_eq_true] at *
  intro b hb
  obtain ⟨c, hc, e⟩ := h b hb
  exact ⟨c, hst c hc, e⟩

/-- What the reference's search from place i on says: the first of the sets that go on from those begun, or that there is none. -/
def Sought (bs : List Batch) (p begun : List Cause) (i m : Nat) (r : Option (List Cause)) : Prop :=
  match r with
  | some s => ∃ u, s = begun ++ u ∧ u.Sublist (p.drop i) ∧ u.length = m ∧ exB bs s = true ∧ ∀ t : List Cause, t.Sublist (p.drop i) → t.length = m → exB bs (begun ++ t) = true → cmpL u t ≤ 0
  | none => ∀ t : List Cause, t.Sublist (p.drop i) → t.length = m → exB bs (begun ++ t) = false
theorem Sought.zero_yes {bs : List Batch} {p begun : List Cause} {i : Nat} (h : exB bs begun = true) : Sought bs p begun i 0 (some begun) :=
  ⟨[], by simp, List.nil_sublist _, rfl, h, fun t _ hl _ => by rw [List.length_eq_zero_iff.1 hl]; exact Int.le_refl _⟩
theorem Sought.zero_no {bs : List Batch} {p begun : List Cause} {i : Nat} (h : exB bs begun = false) : Sought bs p begun i 0 none :=
  fun t _ hl => by rw [List.length_eq_zero_iff.1 hl, List.append_nil]; exact h
theorem Sought.end_ {bs : List Batch} {p begun : List Cause} {m : Nat} : Sought bs p begun p.length (m + 1) none := fun t ht hl => by
  rw [List.drop_length] at ht
  rw [List.sublist_nil.1 ht] at hl; cases hl
/-- A batch that has none of those begun, and none of the later ones. -/
theorem Sought.late {bs : List Batch} {p begun : List Cause} {i m : Nat} {b : Batch} (hb : b ∈ bs) (h1 : begun.any (hasB b) = false) (h2 : (p.drop i).any (hasB b) = false) : Sought bs p begun i m none := fun t ht _ => by
  rw [exB, List.all_eq_false]
  refine ⟨b, hb, ?_⟩
  rw [List.any_append, h1, Bool.false_or, Bool.not_eq_true, List.any_eq_false]
  intro c hc
  exact (List.any_eq_false.1 h2) c (ht.subset hc)
/-- Nothing begins with those begun and is so many, if they explain all batches, as fewer do not. -/
theorem Sought.take {bs : List Batch} {p begun : List Cause} {i m : Nat} {s : List Cause} (hi : i < p.length) (hr : Rises p) (h : Sought bs p (begun ++ [nt p i]) (i + 1) m (some s)) : Sought bs p begun i (m + 1) (some s) := by
  obtain ⟨u, rfl, hu, hl, he, hm⟩ := h
  rw [List.append_assoc, List.singleton_append] at *
  refine ⟨nt p i :: u, rfl, by rw [drop_nt hi]; exact hu.cons_cons _, by simp [hl], he, fun t ht htl hte => ?_⟩
  rw [drop_nt hi] at ht
  cases ht with
  | cons _ h3 =>
    cases t with
    | nil => cases htl
    | cons c t =>
      have hlt : ltC (nt p i) c = true := by
        have h4 : Rises (p.drop i) := hr.sublist (List.drop_sublist _ _)
        rw [drop_nt hi] at h4
        exact (List.pairwise_cons.1 h4).1 c (h3.subset (by simp))
      have := cmpC_neg.2 hlt
      rw [cmpL, if_neg (by omega)]; omega
  | cons_cons _ h3 =>
    rename_i t
    rw [cmpL, if_pos (cmpC_zero.2 rfl)]
    refine hm t h3 (by simpa using htl) ?_
    rw [List.append_assoc, List.singleton_append]; exact hte
theorem Sought.skip {bs : List Batch} {p begun : List Cause} {i m : Nat} {r : Option (List Cause)} (hi : i < p.length) (hr : Rises p) (h : Sought bs p (begun ++ [nt p i]) (i + 1) m none) (k : Sought bs p begun (i + 1) (m + 1) r) : Sought bs p begun i (m + 1) r := by
  have hno : ∀ t : List Cause, t.Sublist (p.drop i) → t.length = m + 1 → exB bs (begun ++ t) = true → t.Sublist (p.drop (i + 1)) := fun t ht hl he => by
    rw [drop_nt hi] at ht
    cases ht with
    | cons _ h3 => exact h3
    | cons_cons _ h3 =>
      rename_i t
      have := h t h3 (by simpa using hl)
      rw [List.append_assoc, List.singleton_append, he] at this; cases this
  cases r with
  | none =>
    intro t ht hl
    rcases Bool.eq_false_or_eq_true (exB bs (begun ++ t)) with g | g
    · exact absurd (k t (hno t ht hl g) hl) (by rw [g]; simp)
    · exact g
  | some s =>
    obtain ⟨u, rfl, hu, hl, he, hm⟩ := k
    refine ⟨u, rfl, hu.trans ?_, hl, he, fun t ht htl hte => hm t (hno t ht htl hte) htl hte⟩
    rw [drop_nt hi]; exact List.sublist_cons_self _ _
/-- Fewer causes do not do. -/
def Fewer (bs : List Batch) (p : List Cause) (n : Nat) : Prop := ∀ t : List Cause, t.Sublist p → t.length < n → exB bs t = false
theorem Fewer.succ {bs : List Batch} {p : List Cause} {n : Nat} (h : Fewer bs p n) (k : Sought bs p [] 0 n none) : Fewer bs p (n + 1) := fun t ht hl => by
  by_cases e : t.length = n
  · simpa using k t (by simpa using ht) e
  · exact h t ht (by omega)
theorem Fewer.best {bs : List Batch} {p s : List Cause} {n : Nat} (h : Fewer bs p n) (k : Sought bs p [] 0 n (some s)) : Best bs p s := by
  obtain ⟨u, rfl, hu, hl, he, hm⟩ := k
  simp only [List.nil_append, List.drop_zero] at *
  refine ⟨hu, he, fun t ht hte => ?_⟩
  by_cases e : t.length = n
  · exact .inr ⟨by omega, hm t ht e (by simpa using hte)⟩
  · by_cases f : t.length < n
    · rw [h t ht f] at hte; cases hte
    · exact .inl (by omega)
end Go.Proofs.YtmapjepdcbpalaaGreatDoor
