/- Causes of batches: what the counts of the reference say. No function is walked here. -/
import Derived.Test.YtmapjepdcbpalaaGreatDoorCQ
import Derived.Test.YtmapjepdcbpalaaGreatDoorB5
namespace Go.Proofs.YtmapjepdcbpalaaGreatDoor
open Go.RowKit
set_option linter.unusedVariables false

theorem cntN_zero {p : Nat → Bool} : ∀ {n : Nat}, cntN p n = 0 ↔ ∀ k, k < n → p k = false
  | 0 => ⟨fun _ k hk => absurd hk (by omega), fun _ => rfl⟩
  | n + 1 => by
    rw [cntN]
    constructor
    · intro h k hk
      have h1 : cntN p n = 0 := by omega
      rcases Nat.lt_or_ge k n with hlt | hge
      · exact cntN_zero.1 h1 k hlt
      · obtain rfl : k = n := by omega
        rcases Bool.eq_false_or_eq_true (p k) with g | g
        · rw [if_pos g] at h; omega
        · exact g
    · intro h
      rw [cntN_zero.2 fun k hk => h k (by omega), h n (by omega)]; rfl
theorem cntN_pos {p : Nat → Bool} {n : Nat} : 0 < cntN p n ↔ ∃ k, k < n ∧ p k = true := by
  constructor
  · intro h
    refine Classical.byContradiction fun hn => ?_
    have : cntN p n = 0 := cntN_zero.2 fun k hk => by
      rcases Bool.eq_false_or_eq_true (p k) with g | g
      · exact absurd ⟨k, hk, g⟩ hn
      · exact g
    omega
  · rintro ⟨k, hk, g⟩
    rcases Nat.eq_zero_or_pos (cntN p n) with h | h
    · rw [cntN_zero.1 h k hk] at g; cases g
    · exact h
/-- p says less than q: the counts are one just where p says as much. -/
theorem cntN_same {p q : Nat → Bool} (hpq : ∀ k, p k = true → q k = true) : ∀ {n : Nat}, cntN p n ≤ cntN q n ∧ (cntN p n = cntN q n ↔ ∀ k, k < n → q k = true → p k = true)
  | 0 => ⟨Nat.le_refl _, fun _ k hk => absurd hk (by omega), fun _ => rfl⟩
  | n + 1 => by
    obtain ⟨h1, h2⟩ := cntN_same hpq (n := n)
    rw [cntN, cntN]
    rcases Bool.eq_false_or_eq_true (q n) with g | g
    · rcases Bool.eq_false_or_eq_true (p n) with f | f
      · rw [if_pos g, if_pos f]
        refine ⟨by omega, fun h k hk hq => ?_, fun h => ?_⟩
        · rcases Nat.lt_or_ge k n with hlt | hge
          · exact h2.1 (by omega) k hlt hq
          · obtain rfl : k = n := by omega
            exact f
        · rw [h2.2 fun k hk => h k (by omega)]
      · rw [if_pos g, f]
        refine ⟨by simp; omega, fun h => ?_, fun h => ?_⟩
        · simp at h; omega
        · rw [h n (by omega) g] at f; cases f
    · have f : p n = false := by
        rcases Bool.eq_false_or_eq_true (p n) with f | f
        · rw [hpq n f] at g; cases g
        · exact f
      rw [g, f]
      refine ⟨by simp; omega, fun h k hk hq => ?_, fun h => ?_⟩
      · simp at h
        rcases Nat.lt_or_ge k n with hlt | hge
        · exact h2.1 h k hlt hq
        · obtain rfl : k = n := by omega
          rw [g] at hq; cases hq
      · simp; exact h2.2 fun k hk => h k (by omega)

theorem any_nt {α : Type} [Inhabited α] {xs : List α} {p : α → Bool} : xs.any p = true ↔ ∃ k, k < xs.length ∧ p (nt xs k) = true := by
  rw [List.any_eq_true]
  constructor
  · rintro ⟨x, hx, h⟩
    obtain ⟨k, hk, rfl⟩ := List.getElem_of_mem hx
    exact ⟨k, hk, by rw [nt_lt hk]; exact h⟩
  · rintro ⟨k, hk, h⟩
    exact ⟨_, nt_mem hk, h⟩
def badsOf (xs : List Batch) : List Batch := xs.filter (·.Bad)
def goodsOf (xs : List Batch) : List Batch := xs.filter fun b => !b.Bad
/-- The causes that each bad batch has. -/
def comL (xs : List Batch) : List Cause := (inL (badsOf xs)).filter fun c => !(badsOf xs).any fun b => !hasB b c
/-- The causes that a bad batch has, and no good one. -/
def posL (xs : List Batch) : List Cause := (inL (badsOf xs)).filter fun c => !(goodsOf xs).any fun b => hasB b c
def codeB (xs : List Batch) : Int := if batchesOk xs = true then (if xs.any (·.Bad) = true then 0 else 3) else 1

theorem bad_any {xs : List Batch} {c : Cause} : (badsOf xs).any (hasB · c) = true ↔ ∃ k, k < xs.length ∧ badP xs c k = true := by
  rw [badsOf, List.any_filter, any_nt]
  constructor <;> rintro ⟨k, hk, h⟩ <;> refine ⟨k, hk, ?_⟩ <;> simp only [badP, Bool.and_eq_true] at * <;> exact ⟨h.2, h.1⟩
theorem good_any {xs : List Batch} {c : Cause} : (goodsOf xs).any (hasB · c) = true ↔ ∃ k, k < xs.length ∧ goodP xs c k = true := by
  rw [goodsOf, List.any_filter, any_nt]
  constructor <;> rintro ⟨k, hk, h⟩ <;> refine ⟨k, hk, ?_⟩ <;> simp only [goodP, Bool.and_eq_true] at * <;> exact ⟨h.2, h.1⟩
def inB' (xs : List Batch) (c : Cause) : Bool := decide (0 < cntN (badP xs c) xs.length + cntN (goodP xs c) xs.length)
def comB (xs : List Batch) (c : Cause) : Bool := cntN (badP xs c) xs.length == cntN (fun k => (nt xs k).Bad) xs.length
def posB (xs : List Batch) (c : Cause) : Bool := decide (0 < cntN (badP xs c) xs.length) && cntN (goodP xs c) xs.length == 0
theorem spec_inL (xs : List Batch) : (allC 60).filter (inB' xs) = inL xs := by
  refine List.filter_congr fun c hc => ?_
  rw [Bool.eq_iff_iff, inB', anyHas, decide_eq_true_eq, any_nt]
  constructor
  · intro h
    rcases Nat.eq_zero_or_pos (cntN (badP xs c) xs.length) with h1 | h1
    · obtain ⟨k, hk, g⟩ := cntN_pos.1 (show 0 < cntN (goodP xs c) xs.length by omega)
      simp only [goodP, Bool.and_eq_true] at g
      exact ⟨k, hk, g.1⟩
    · obtain ⟨k, hk, g⟩ := cntN_pos.1 h1
      simp only [badP, Bool.and_eq_true] at g
      exact ⟨k, hk, g.1⟩
  · rintro ⟨k, hk, h⟩
    rcases Bool.eq_false_or_eq_true (nt xs k).Bad with g | g
    · have := cntN_pos.2 ⟨k, hk, show badP xs c k = true by rw [badP, h, g]; rfl⟩
      omega
    · have := cntN_pos.2 ⟨k, hk, show goodP xs c k = true by rw [goodP, h, g]; rfl⟩
      omega
theorem spec_posL (xs : List Batch) : (allC 60).filter (posB xs) = posL xs := by
  rw [posL, inL, List.filter_filter]
  refine List.filter_congr fun c hc => ?_
  rw [Bool.eq_iff_iff, posB, Bool.and_eq_true, Bool.and_eq_true, decide_eq_true_eq, beq_iff_eq, anyHas, bad_any, cntN_pos, Bool.not_eq_true', ← Bool.not_eq_true, good_any, cntN_zero, and_comm]
  constructor
  · rintro ⟨h1, h2⟩
    exact ⟨(fun ⟨k, hk, h⟩ => by rw [h1 k hk] at h; cases h), h2⟩
  · rintro ⟨h1, h2⟩
    exact ⟨fun k hk => by
      rcases Bool.eq_false_or_eq_true (goodP xs c k) with g | g
      · exact absurd ⟨k, hk, g⟩ h1
      · exact g, h2⟩
theorem spec_comL {xs : List Batch} (h : xs.any (·.Bad) = true) : (allC 60).filter (comB xs) = comL xs := by
  rw [comL, inL, List.filter_filter]
  refine List.filter_congr fun c hc => ?_
  have hs := (cntN_same (p := badP xs c) (q := fun k => (nt xs k).Bad) (fun k h => by simp only [badP, Bool.and_eq_true] at h; exact h.2) (n := xs.length)).2
  rw [Bool.eq_iff_iff, comB, Bool.and_eq_true, beq_iff_eq, hs, anyHas, bad_any, Bool.not_eq_true', ← Bool.not_eq_true, badsOf, List.any_filter, any_nt]
  obtain ⟨k0, hk0, h0⟩ := any_nt.1 h
  constructor
  · intro h
    refine ⟨?_, k0, hk0, h k0 hk0 h0⟩
    rintro ⟨k, hk, g⟩
    simp only [Bool.and_eq_true, Bool.not_eq_true'] at g
    have := h k hk g.1
    simp only [badP, Bool.and_eq_true] at this
    rw [this.1] at g; exact absurd g.2 (by simp)
  · rintro ⟨h1, _⟩ k hk g
    rw [badP, g, Bool.and_true]
    rcases Bool.eq_false_or_eq_true (hasB (nt xs k) c) with f | f
    · exact f
    · exact absurd ⟨k, hk, by simp only [g, f]; rfl⟩ h1

/-- Do causes explain batches? -/
def aeB (xs : List Batch) (cs : List Cause) : Bool := xs.all fun b => !(b.Bad != cs.any (hasB b))
def aeC (xs : List Batch) (cs : List Cause) : Int := if batchesOk xs = true then (if (cs.all causeB && decide (cs.length ≤ 60)) = true then 0 else 2) else 1
def aeV (xs : List Batch) (cs : List Cause) : Bool := if aeC xs cs = 0 then aeB xs cs else false
/-- A bad batch with none of some causes. -/
def openB (cs : List Cause) (b : Batch) : Bool := b.Bad && !cs.any (hasB b)
theorem ae_good {xs : List Batch} {cs : List Cause} {c : Cause} (hc : c ∈ cs) (h : 0 < cntN (goodP xs c) xs.length) : aeB xs cs = false := by
  obtain ⟨k, hk, g⟩ := cntN_pos.1 h
  simp only [goodP, Bool.and_eq_true, Bool.not_eq_true'] at g
  rw [aeB, List.all_eq_false]
  refine ⟨nt xs k, nt_mem hk, ?_⟩
  have : cs.any (hasB (nt xs k)) = true := List.any_eq_true.2 ⟨c, hc, g.1⟩
  rw [this, g.2]; simp
theorem ae_open {xs : List Batch} {cs : List Cause} (h : ∀ c ∈ cs, cntN (goodP xs c) xs.length = 0) : aeB xs cs = !xs.any (openB cs) := by
  rw [Bool.eq_iff_iff, aeB, List.all_eq_true, Bool.not_eq_true', List.any_eq_false]
  constructor
  · intro h1 b hb
    have := h1 b hb
    rw [openB]
    rcases Bool.eq_false_or_eq_true b.Bad with g | g
    · rw [g] at this
      rcases Bool.eq_false_or_eq_true (cs.any (hasB b)) with f | f
      · rw [f]; simp
      · rw [f] at this; simp at this
    · rw [g]; simp
  · intro h1 b hb
    have h2 := h1 b hb
    rw [openB] at h2
    rcases Bool.eq_false_or_eq_true b.Bad with g | g
    · rw [g] at h2 ⊢
      rcases Bool.eq_false_or_eq_true (cs.any (hasB b)) with f | f
      · rw [f]; rfl
      · rw [f] at h2; simp at h2
    · rw [g]
      rcases Bool.eq_false_or_eq_true (cs.any (hasB b)) with f | f
      · obtain ⟨c, hc, hh⟩ := List.any_eq_true.1 f
        obtain ⟨k, hk, rfl⟩ := List.getElem_of_mem hb
        have := cntN_zero.1 (h c hc) k hk
        rw [goodP, nt_lt hk, hh, g] at this
        simp at this
      · rw [f]; rfl
end Go.Proofs.YtmapjepdcbpalaaGreatDoor
