/- Plain laws on drying: points add up, bricks are dry on the day that is told and not before, dry bricks are those of the racks that are ready. No function is walked here. -/
import Derived.Test.YtoghgbbepjpelaaW2
import Derived.Test.YtoghgbbepjpelaaW3
import Derived.Test.YtoghgbbepjpelaaW4
import Derived.Test.YtoghgbbepjpelaaV3
import Derived.Test.YtoghgbbepjpelaaV4
import Derived.Test.YtoghgbbepjpelaaF1
namespace Go.Proofs.Ytoghgbbepjpelaa
open Go.RowKit
set_option linter.unusedVariables false

theorem pb_cases (s : ByteArray) (a b : Int) {v c : Int} (h : pbF s a b = (v, c)) :
    (c = 0 ∧ weatherB s = true ∧ ∃ i k : Nat, a = i ∧ b = (i : Int) + k ∧ i + k ≤ s.size ∧ v = psW s i k) ∨ (c != 0) = true := by
  unfold pbF at h
  split at h
  · rename_i g
    split at h
    · rename_i g2
      obtain ⟨rfl, rfl⟩ := Prod.mk.inj h
      rw [Bool.and_eq_true] at g2
      obtain ⟨a0, a1⟩ := inB_true.1 g2.1
      obtain ⟨b0, b1⟩ := inB_true.1 g2.2
      exact .inl ⟨rfl, g, a.toNat, b.toNat - a.toNat, by omega, by omega, by omega, rfl⟩
    · obtain ⟨rfl, rfl⟩ := Prod.mk.inj h
      exact .inr rfl
  · obtain ⟨rfl, rfl⟩ := Prod.mk.inj h
    exact .inr rfl
theorem pb_at {s : ByteArray} {i k : Nat} (h : weatherB s = true) (hk : i + k ≤ s.size) : pbF s (i : Int) ((i : Int) + k) = (psW s i k, 0) := by
  rw [pbF, if_pos h, inB_true.2 (by omega), inB_true.2 (by omega)]
  simp only [Bool.and_self, if_true, Int.toNat_natCast]
  rw [show ((i : Int) + (k : Int)).toNat - i = k by omega]
theorem ptsL_nth (s : ByteArray) : ∀ m k, k < m → nth (ptsL s m) k = ptAt s k := by
  intro m
  induction m with
  | zero => intro k hk; omega
  | succ m ih =>
    intro k hk
    rw [ptsL]
    rcases Nat.lt_or_ge k m with h1 | h1
    · rw [nth_append_left (by rw [ptsL_len]; exact h1)]; exact ih k h1
    · obtain rfl : k = m := by omega
      simp [nth, ptsL_len]
theorem po_of {s : ByteArray} (h : weatherB s = true) : poL s = ptsL s s.size ∧ poC s = 0 := by rw [poL, poC, if_pos h, if_pos h]; exact ⟨rfl, rfl⟩
theorem dry_cases (s : ByteArray) (a needs : Int) {d c : Int} (h : dryF s a needs = (d, c)) :
    (c = 0 ∧ ∃ i k : Nat, ∃ x, a = i ∧ d = (i : Int) + k ∧ pbF s a d = (x, 0) ∧ needs ≤ x ∧ (k = 0 ∨ 0 < k ∧ ∃ y, pbF s a (d - 1) = (y, 0) ∧ y < needs)) ∨ (c != 0) = true := by
  unfold dryF at h
  split at h
  · rename_i g
    split at h
    · rename_i g2
      rw [Bool.and_eq_true] at g2
      obtain ⟨a0, a1⟩ := inB_true.1 g2.1
      split at h
      · obtain ⟨rfl, rfl⟩ := Prod.mk.inj h
        exact .inr rfl
      · rename_i g3
        obtain ⟨rfl, rfl⟩ := Prod.mk.inj h
        obtain ⟨i, rfl⟩ := Int.eq_ofNat_of_zero_le a0
        rw [Int.toNat_natCast] at *
        rw [dryV] at *
        split at g3
        · rename_i hk
          rw [if_pos hk]
          have hs : ∃ k, dryK s i needs = k ∧ dryP s i needs k = true ∧ ∀ j, j < k → dryP s i needs j = false := by
            refine ⟨_, rfl, ?_⟩
            unfold dryK firstN at hk ⊢
            cases hf : (List.range (s.size + 1 - i)).find? (dryP s i needs) with
            | none => rw [hf] at hk; simp at hk
            | some j =>
              rw [List.find?_range_eq_some] at hf
              exact ⟨hf.1, fun q hq => by simpa using hf.2.2 q hq⟩
          obtain ⟨k, e, hp, hn⟩ := hs
          rw [e] at hk ⊢
          have hp' : needs ≤ psW s i k := by simpa [dryP] using hp
          refine .inl ⟨rfl, i, k, psW s i k, rfl, rfl, pb_at g (by omega), hp', ?_⟩
          rcases Nat.eq_zero_or_pos k with hz | hpos
          · exact .inl hz
          · refine .inr ⟨hpos, psW s i (k - 1), ?_, ?_⟩
            · have h1 := pb_at (s := s) (i := i) (k := k - 1) g (by omega)
              rw [show (i : Int) + (k : Int) - 1 = (i : Int) + ((k - 1 : Nat) : Int) by omega]
              exact h1
            · have := hn (k - 1) (by omega)
              simpa [dryP] using this
        · exfalso; exact g3 (by decide)
    · obtain ⟨rfl, rfl⟩ := Prod.mk.inj h
      exact .inr rfl
  · obtain ⟨rfl, rfl⟩ := Prod.mk.inj h
    exact .inr rfl

/-- What some racks hold. -/
def hSum (xs : List Rack) (l : List Int) : Nat → Int
  | 0 => 0
  | k + 1 => hSum xs l k + (nt xs (nth l k).toNat).Holds
theorem hSum_app (xs : List Rack) (l : List Int) (x : Int) : ∀ k, k ≤ l.length → hSum xs (l ++ [x]) k = hSum xs l k := by
  intro k
  induction k with
  | zero => intro _; rfl
  | succ k ih => intro hk; rw [hSum, hSum, ih (by omega), nth_append_left (by omega)]
theorem ready_sum (xs : List Rack) (s : ByteArray) (d : Nat) : ∀ k, hSum xs (readyL xs s d k) (readyL xs s d k).length = sumD xs s d k := by
  intro k
  induction k with
  | zero => rfl
  | succ k ih =>
    rw [readyL, sumD]
    split
    · rw [List.length_append, List.length_singleton, hSum, hSum_app _ _ _ _ (Nat.le_refl _), ih]
      congr 1
      simp [nth]
    · rw [List.append_nil, ih, Int.add_zero]
theorem ready_mem (xs : List Rack) (s : ByteArray) (d : Nat) : ∀ k, ∀ j, j < (readyL xs s d k).length → ∃ i : Nat, nth (readyL xs s d k) j = i ∧ i < k := by
  intro k
  induction k with
  | zero => intro j hj; simp [readyL] at hj
  | succ k ih =>
    intro j hj
    rw [readyL] at hj ⊢
    split at hj
    · rename_i g
      rw [if_pos g]
      rw [List.length_append, List.length_singleton] at hj
      rcases Nat.lt_or_ge j (readyL xs s d k).length with h1 | h1
      · obtain ⟨i, hi, hk⟩ := ih j h1
        exact ⟨i, by rw [nth_append_left h1]; exact hi, by omega⟩
      · obtain rfl : j = (readyL xs s d k).length := by omega
        exact ⟨k, by simp [nth], by omega⟩
    · rename_i g
      rw [if_neg g]
      rw [List.append_nil] at hj ⊢
      obtain ⟨i, hi, hk⟩ := ih j hj
      exact ⟨i, hi, by omega⟩
theorem hSum_bound {xs : List Rack} (h : racksOk xs = true) {l : List Int} (hl : ∀ j, j < l.length → ∃ i : Nat, nth l j = i ∧ i < xs.length) : ∀ k, k ≤ l.length → 0 ≤ hSum xs l k ∧ hSum xs l k ≤ 2000 * (k : Int) := by
  intro k
  induction k with
  | zero => intro _; simp [hSum]
  | succ k ih =>
    intro hk
    obtain ⟨h0, h1⟩ := ih (by omega)
    obtain ⟨i, e, hi⟩ := hl k (by omega)
    have h2 := okB_facts (racksOk_at h hi)
    rw [hSum, e, Int.toNat_natCast]
    omega
theorem dryL_nth (xs : List Rack) (s : ByteArray) (n : Nat) : ∀ m k, k < m → nth (dryL xs s n m) k = sumD xs s k n := by
  intro m
  induction m with
  | zero => intro k hk; omega
  | succ m ih =>
    intro k hk
    rw [dryL]
    rcases Nat.lt_or_ge k m with h1 | h1
    · rw [nth_append_left (by rw [dryL_len]; exact h1)]; exact ih k h1
    · obtain rfl : k = m := by omega
      simp [nth, dryL_len]
theorem rr_cases (xs : List Rack) (s : ByteArray) (d : Int) {c : Int} (h : rrC xs s d = c) :
    (c = 0 ∧ racksOk xs = true ∧ ∃ D : Nat, d = D ∧ D < (dbL xs s).length ∧ nth (dbL xs s) D = hSum xs (rrL xs s d) (rrL xs s d).length ∧ (rrL xs s d).length ≤ xs.length ∧ ∀ j, j < (rrL xs s d).length → ∃ i : Nat, nth (rrL xs s d) j = i ∧ i < xs.length) ∨ (c != 0) = true := by
  subst h
  by_cases h0 : rrC xs s d = 0
  · have hrl : rrL xs s d = readyL xs s d.toNat xs.length := by rw [rrL, if_pos h0]
    have hb : bothC xs s = 0 := by
      unfold rrC at h0
      split at h0
      · assumption
      · exact h0
    obtain ⟨hr, hw⟩ := bothC_zero hb
    have hd : 0 ≤ d ∧ d ≤ s.size := by
      unfold rrC at h0
      rw [if_pos hb] at h0
      split at h0
      · rename_i g; exact inB_true.1 g
      · omega
    have hdb : dbL xs s = dryL xs s xs.length (s.size + 1) := by rw [dbL, if_pos hb]
    rw [hrl, hdb]
    exact .inl ⟨h0, hr, d.toNat, by omega, by rw [dryL_len]; omega, by rw [dryL_nth _ _ _ _ _ (by omega), ready_sum], readyL_len _ _ _ _, ready_mem _ _ _ _⟩
  · exact .inr (by simpa using h0)
end Go.Proofs.Ytoghgbbepjpelaa
