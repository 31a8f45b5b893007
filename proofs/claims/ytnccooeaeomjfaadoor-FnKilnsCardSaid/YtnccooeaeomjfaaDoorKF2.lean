/- Plain laws of the ring kiln for the law on steps: a turn of the ring, the line of letters tells the step, how many chambers a stage has. No contract is named here. -/
import Derived.Test.YtnccooeaeomjfaaDoorK8
import Derived.Test.YtnccooeaeomjfaaDoorK5
import Derived.Test.YtnccooeaeomjfaaDoorK10
import Derived.Test.YtnccooeaeomjfaaDoorKF0
namespace Go.Proofs.YtnccooeaeomjfaaDoor
open Go.RowKit
set_option linter.unusedVariables false

theorem atF_turn {ch : Int} {xs : List Int} {c s : Int} (h6 : 6 ≤ ch) (hc0 : 0 ≤ c) (hc : c < ch) : atF ch xs ((c + 1) % ch) (s + 1) = atF ch xs c s := by
  unfold atF
  congr 1
  by_cases e : c + 1 < ch
  · rw [Int.emod_eq_of_lt (show 0 ≤ c + 1 by omega) e]; congr 1; omega
  · have h : c + 1 = ch := by omega
    rw [h, Int.emod_self]
    have h2 : s + 1 - 0 = (s - c) + ch := by omega
    rw [h2, Int.add_emod_right]
theorem atF_lap {ch : Int} {xs : List Int} {c s : Int} : atF ch xs c (s + ch) = atF ch xs c s := by
  unfold atF
  have h2 : s + ch - c = (s - c) + ch := by omega
  rw [h2, Int.add_emod_right]
theorem atF_mod {ch : Int} {xs : List Int} {c s : Int} : atF ch xs c (s % ch) = atF ch xs c s := by
  unfold atF
  congr 1
  have h2 : s % ch - c = s % ch + (-c) := by omega
  have h3 : s - c = s + (-c) := by omega
  rw [h2, h3, Int.emod_add_emod]

theorem lineL_nth {ch : Int} {xs : List Int} {s : Int} : ∀ {k j : Nat}, j < k → nth (lineL ch xs s k) j = letter (atF ch xs j s) := by
  intro k
  induction k with
  | zero => intro j hj; omega
  | succ k ih =>
    intro j hj
    rw [lineL]
    by_cases e : j < k
    · rw [nth_append_left (by rw [lineL_len]; exact e)]; exact ih e
    · obtain rfl : j = k := by omega
      have := lineL_len ch xs s j
      simp [nth, List.getD_eq_getElem?_getD, this]
theorem lineL_ext {ch : Int} {xs : List Int} {s r : Int} (h : ∀ c : Int, atF ch xs c s = atF ch xs c r) : ∀ k, lineL ch xs s k = lineL ch xs r k := by
  intro k
  induction k with
  | zero => rfl
  | succ k ih => rw [lineL, lineL, ih, h]
theorem letter_cases {t : Int} (h0 : 0 ≤ t) (h5 : t ≤ 5) : (t = 0 ∧ letter t = 46) ∨ (t = 1 ∧ letter t = 115) ∨ (t = 2 ∧ letter t = 104) ∨ (t = 3 ∧ letter t = 102) ∨ (t = 4 ∧ letter t = 99) ∨ (t = 5 ∧ letter t = 100) := by
  have hc : t = 0 ∨ t = 1 ∨ t = 2 ∨ t = 3 ∨ t = 4 ∨ t = 5 := by omega
  rcases hc with rfl | rfl | rfl | rfl | rfl | rfl <;> simp [letter, nth]
theorem letter_inj {t u : Int} (h0 : 0 ≤ t) (h5 : t ≤ 5) (k0 : 0 ≤ u) (k5 : u ≤ 5) (h : UInt8.ofNat (letter t).toNat = UInt8.ofNat (letter u).toNat) : t = u := by
  have h2 := congrArg UInt8.toNat h
  rcases letter_cases h0 h5 with ⟨rfl, e⟩ | ⟨rfl, e⟩ | ⟨rfl, e⟩ | ⟨rfl, e⟩ | ⟨rfl, e⟩ | ⟨rfl, e⟩ <;>
    rcases letter_cases k0 k5 with ⟨rfl, f⟩ | ⟨rfl, f⟩ | ⟨rfl, f⟩ | ⟨rfl, f⟩ | ⟨rfl, f⟩ | ⟨rfl, f⟩ <;>
    first | rfl | (rw [e, f] at h2; simp at h2)
theorem lineF_at {m : Nat} {xs : List Int} {s r : Int} (hL : lensOk xs = true) (h : lineF m xs s = lineF m xs r) {c : Nat} (hc : c < m) : atF m xs c s = atF m xs c r := by
  have h1 : (strOfNums (lineL m xs s m)).data.toList = (strOfNums (lineL m xs r m)).data.toList := by
    have := h; simp only [lineF, Int.toNat_natCast] at this; rw [this]
  rw [strOfNums_data, strOfNums_data] at h1
  have h2 := congrArg (fun l => l[c]?) h1
  simp only [List.getElem?_map] at h2
  rw [List.getElem?_eq_getElem (by rw [lineL_len]; exact hc), List.getElem?_eq_getElem (by rw [lineL_len]; exact hc)] at h2
  simp only [Option.map_some, Option.some.injEq] at h2
  rw [← nth_lt (by rw [lineL_len]; exact hc), ← nth_lt (by rw [lineL_len]; exact hc), lineL_nth hc, lineL_nth hc] at h2
  obtain ⟨a0, a1⟩ := atF_range (ch := m) hL c s
  obtain ⟨b0, b1⟩ := atF_range (ch := m) hL c r
  exact letter_inj a0 a1 b0 b1 h2
/-- A line tells the step, but for laps. -/
theorem lineF_step {m : Nat} {xs : List Int} {s r : Int} (h : okB m xs = true) (e : lineF m xs s = lineF m xs r) : s % (m : Int) = r % (m : Int) := by
  obtain ⟨h6, h24, hL, hS⟩ := okB_parts h
  have hm : (0 : Int) < m := by omega
  -- the stage at any phase of s is the stage at that phase of r
  have key : ∀ c : Int, atF m xs c s = atF m xs c r := fun c => by
    have c0 := Int.emod_nonneg c (b := (m : Int)) (by omega)
    have c1 := Int.emod_lt_of_pos c hm
    have h1 : ∀ t : Int, atF m xs (c % (m : Int)) t = atF m xs c t := fun t => by
      unfold atF; congr 1
      rw [Int.sub_emod t (c % (m : Int)), Int.emod_emod, ← Int.sub_emod]
    obtain ⟨j, hj⟩ := Int.eq_ofNat_of_zero_le c0
    have h2 := lineF_at hL e (c := j) (by omega)
    rw [← hj, h1, h1] at h2
    exact h2
  -- phase p of r where s begins
  have p0 := Int.emod_nonneg (r - s) (b := (m : Int)) (by omega)
  have p1 := Int.emod_lt_of_pos (r - s) hm
  have q1 := psum_succ (xs := xs) (k := 0) (by rw [lensOk_len hL]; omega)
  have q0 := psum_zero xs
  have q2 := lensOk_nth hL (k := 0) (by omega)
  have q3 := psum_mono hL (k := 1) (by omega)
  have q4 := psum_bound hL 5 (by omega)
  have q5 := psum_succ (xs := xs) (k := 1) (by rw [lensOk_len hL]; omega)
  have q6 := lensOk_nth hL (k := 1) (by omega)
  have q7 := psum_mono hL (k := 2) (by omega)
  simp only [Nat.zero_add, Nat.reduceAdd] at q1 q3 q5 q7
  have k1 := key s
  unfold atF at k1
  rw [Int.sub_self, Int.zero_emod] at k1
  have g1 : stg xs 0 0 = ((0 : Nat) : Int) + 1 := (stg_iff hL (k := 0) (by omega) (by omega)).2 (by simp only [Nat.zero_add]; omega)
  rw [g1] at k1
  have g2 := (stg_iff hL (k := 0) (by omega) p0).1 k1.symm
  simp only [Nat.zero_add] at g2
  have k2 := key (s + 1)
  unfold atF at k2
  have e1 : (s - (s + 1)) % (m : Int) = m - 1 := by
    have : s - (s + 1) = ((m : Int) - 1) + (-1) * m := by omega
    rw [this, Int.add_mul_emod_self_right]
    exact Int.emod_eq_of_lt (by omega) (by omega)
  have e2 : (r - (s + 1)) % (m : Int) = ((r - s) % (m : Int) - 1) % (m : Int) := by
    have h1 : r - (s + 1) = (r - s) - 1 := by omega
    rw [h1, Int.emod_sub_emod]
  rw [e1, e2] at k2
  have hz : (r - s) % (m : Int) = 0 := by
    rcases Int.lt_or_le 0 ((r - s) % (m : Int)) with hp | hp
    · have e3 : ((r - s) % (m : Int) - 1) % (m : Int) = (r - s) % (m : Int) - 1 := Int.emod_eq_of_lt (by omega) (by omega)
      rw [e3] at k2
      have g3 : stg xs ((r - s) % (m : Int) - 1) 0 = ((0 : Nat) : Int) + 1 := (stg_iff hL (k := 0) (by omega) (by omega)).2 (by simp only [Nat.zero_add]; omega)
      rw [g3] at k2
      have g4 := (stg_iff hL (k := 0) (by omega) (show (0 : Int) ≤ (m : Int) - 1 by omega)).1 k2
      simp only [Nat.zero_add] at g4
      omega
    · omega
  have h5 := Int.emod_emod_of_dvd
  have : r = s + m * ((r - s) / m) := by
    have := Int.emod_add_mul_ediv (r - s) m
    omega
  rw [this, Int.add_mul_emod_self_left]
theorem step_of_line {m : Nat} {xs : List Int} {s : Int} (h : okB m xs = true) : stepOfF m xs (lineF m xs s) = (s % (m : Int), 0) := by
  obtain ⟨h6, h24, hL, hS⟩ := okB_parts h
  have p0 := Int.emod_nonneg s (b := (m : Int)) (by omega)
  have p1 := Int.emod_lt_of_pos s (show (0 : Int) < m by omega)
  obtain ⟨k, hk⟩ := Int.eq_ofNat_of_zero_le p0
  have e1 : lineF m xs (k : Int) = lineF m xs s := by
    rw [← hk, lineF, lineF, lineL_ext (fun c => atF_mod) _]
  rw [stepOfF_some h (k := k) (by simp only [Int.toNat_natCast]; omega) e1, hk]
  intro j hj e
  have := lineF_step h (e.trans e1.symm)
  rw [Int.emod_eq_of_lt (by omega) (by omega), Int.emod_eq_of_lt (by omega) (by omega)] at this
  omega

theorem inL_count {ch : Int} {xs : List Int} {t s : Int} : ∀ k, (inL ch xs t s k).length = cnt (fun c => stg xs ((s - (c : Int)) % ch) 0 == t) k := by
  intro k
  induction k with
  | zero => rfl
  | succ k ih =>
    rw [inL, List.length_append, cnt, ih]
    by_cases e : atF ch xs k s = t
    · rw [if_pos e, if_pos (by unfold atF at e; simpa using e)]; rfl
    · rw [if_neg e, if_neg (by unfold atF at e; simpa using e)]; rfl
/-- A stage has as many chambers as its length; the other chambers are empty. -/
theorem inL_stage {m : Nat} {xs : List Int} (h : okB m xs = true) (s k : Nat) (hk : k < 5) : ((inL m xs ((k : Int) + 1) (s : Int) m).length : Int) = nth xs k := by
  obtain ⟨h6, h24, hL, hS⟩ := okB_parts h
  have b0 := psum_bound hL k (by omega)
  have b1 := lensOk_nth hL hk
  have b2 := psum_succ (xs := xs) (k := k) (by rw [lensOk_len hL]; exact hk)
  have b3 := psum_mono hL (k := k + 1) (by omega)
  rw [inL_count, cnt_turn (fun p => stg xs p 0 == (k : Int) + 1) m (by omega) s]
  rw [cnt_range (a := (psum xs k).toNat) (b := (psum xs (k + 1)).toNat) (by omega) (fun j => by
    rw [Bool.eq_iff_iff, beq_iff_eq, decide_eq_true_eq, stg_iff hL hk (by omega)]; omega) (by omega)]
  omega
theorem inL_empty {m : Nat} {xs : List Int} (h : okB m xs = true) (s : Nat) : ((inL m xs 0 (s : Int) m).length : Int) = m - psum xs 5 := by
  obtain ⟨h6, h24, hL, hS⟩ := okB_parts h
  have b0 := psum_bound hL 5 (by omega)
  rw [inL_count, cnt_turn (fun p => stg xs p 0 == 0) m (by omega) s]
  rw [cnt_ext (g := fun j => decide ((psum xs 5).toNat ≤ j ∧ j < m)) (fun j hj => by
    rw [Bool.eq_iff_iff, beq_iff_eq, decide_eq_true_eq, stg_zero hL (by omega)]; omega)]
  rw [cnt_range (a := (psum xs 5).toNat) (b := m) (by omega) (fun j => rfl) (Nat.le_refl _)]
  omega
theorem inL_mem {ch : Int} {xs : List Int} {t s : Int} : ∀ {k : Nat} {x : Int}, x ∈ inL ch xs t s k ↔ ∃ j : Nat, j < k ∧ x = (j : Int) ∧ atF ch xs j s = t := by
  intro k
  induction k with
  | zero => intro x; simp [inL]
  | succ k ih =>
    intro x
    rw [inL, List.mem_append, ih]
    constructor
    · rintro (⟨j, h1, h2, h3⟩ | h)
      · exact ⟨j, by omega, h2, h3⟩
      · by_cases e : atF ch xs k s = t
        · rw [if_pos e] at h; simp at h; exact ⟨k, by omega, h, e⟩
        · rw [if_neg e] at h; simp at h
    · rintro ⟨j, h1, h2, h3⟩
      by_cases e : j < k
      · exact .inl ⟨j, e, h2, h3⟩
      · obtain rfl : j = k := by omega
        exact .inr (by rw [if_pos h3]; simp [h2])
/-- Do numbers rise, from 0 to below n? -/
def RiseB (xs : List Int) (n : Int) : Prop := ∀ k, k < xs.length → 0 ≤ nth xs k ∧ nth xs k < n ∧ (0 < k → nth xs (k - 1) < nth xs k)
theorem inL_rise {ch : Int} {xs : List Int} {t s : Int} : ∀ k : Nat, RiseB (inL ch xs t s k) k := by
  intro k
  induction k with
  | zero => intro j hj; simp [inL] at hj
  | succ k ih =>
    by_cases e : atF ch xs k s = t
    · rw [inL_yes e]
      intro j hj
      rw [List.length_append, List.length_singleton] at hj
      by_cases hlt : j < (inL ch xs t s k).length
      · obtain ⟨a, b, c⟩ := ih j hlt
        rw [nth_append_left hlt]
        refine ⟨a, by omega, fun h0 => ?_⟩
        rw [nth_append_left (by omega)]; exact c h0
      · have hj' : j = (inL ch xs t s k).length := by omega
        have hn : nth (inL ch xs t s k ++ [(k : Int)]) j = k := by subst hj'; simp [nth, List.getD_eq_getElem?_getD]
        rw [hn]
        refine ⟨by omega, by omega, fun h0 => ?_⟩
        rw [nth_append_left (by omega)]
        exact (ih (j - 1) (by omega)).2.1
    · rw [inL_no e]
      intro j hj
      obtain ⟨a, b, c⟩ := ih j hj
      exact ⟨a, by omega, c⟩
/-- How many chambers lie in the stages below t. -/
def belowN (ch : Int) (xs : List Int) (t : Nat) : Int := if t = 0 then 0 else (ch - psum xs 5) + psum xs (t - 1)
theorem belowN_one {ch : Int} {xs : List Int} : belowN ch xs 1 = belowN ch xs 0 + (ch - psum xs 5) := by simp [belowN, psum_zero]
theorem belowN_succ {ch : Int} {xs : List Int} {k : Nat} (hl : xs.length = 5) (hk : k < 5) : belowN ch xs (k + 2) = belowN ch xs (k + 1) + nth xs k := by
  rw [belowN, belowN, if_neg (by omega), if_neg (by omega), show k + 2 - 1 = k + 1 by omega, show k + 1 - 1 = k by omega]
  have := psum_succ (xs := xs) (k := k) (by omega)
  omega
theorem belowN_all {ch : Int} {xs : List Int} : belowN ch xs 6 = ch := by simp [belowN]

theorem fitC {ch : Int} {xs : List Int} {c s t : Int} (h : okB ch xs = true) (c0 : 0 ≤ c) (c1 : c < ch) (s0 : 0 ≤ s) (s1 : s ≤ 100000) (t0 : 0 ≤ t) (t1 : t ≤ 5) : codeF ch xs c s t = 0 := by
  rw [codeF_ok h, inB_true.2 (show 0 ≤ c ∧ c ≤ ch - 1 by omega), inB_true.2 (show 0 ≤ s ∧ s ≤ 100000 by omega), inB_true.2 (show 0 ≤ t ∧ t ≤ 5 by omega)]; rfl
theorem fitS {ch : Int} {xs : List Int} {c s : Int} (h : okB ch xs = true) (c0 : 0 ≤ c) (c1 : c < ch) (s0 : 0 ≤ s) (s1 : s ≤ 100000) : stageAtF ch xs c s = (atF ch xs c s, 0) := by
  rw [stageAtF, if_pos (fitC h c0 c1 s0 s1 (by omega) (by omega))]
/-- What the law on steps asks of the stages. -/
theorem kilns_stages {m : Nat} {xs : List Int} {x y : Int} (h : okB m xs = true) (x0 : 0 ≤ x) (x1 : x < 200) (y0 : 0 ≤ y) (y1 : y < m) :
    ∃ a, 0 ≤ a ∧ a ≤ 5 ∧ a = atF m xs y x ∧ stageAtF m xs y x = (a, 0) ∧ stageAtF m xs ((y + 1) % (m : Int)) (x + 1) = (a, 0) ∧ stageAtF m xs y (x + m) = (a, 0) := by
  obtain ⟨h6, h24, hL, _⟩ := okB_parts h
  obtain ⟨a0, a1⟩ := atF_range (ch := m) hL y x
  have r0 := Int.emod_nonneg (y + 1) (b := (m : Int)) (by omega)
  have r1 := Int.emod_lt_of_pos (y + 1) (show (0 : Int) < m by omega)
  exact ⟨_, a0, a1, rfl, fitS h y0 y1 x0 (by omega), by rw [fitS h r0 r1 (by omega) (by omega), atF_turn h6 y0 y1], by rw [fitS h y0 y1 (by omega) (by omega), atF_lap]⟩
theorem kilns_line {m : Nat} {xs : List Int} {x : Int} (h : okB m xs = true) (x0 : 0 ≤ x) (x1 : x < 200) :
    ∃ ln, klineF m xs x = (ln, 0) ∧ ln.size = m ∧ stepOfF m xs ln = (x % (m : Int), 0) := by
  obtain ⟨h6, h24, hL, _⟩ := okB_parts h
  refine ⟨lineF m xs x, ?_, ?_, step_of_line h⟩
  · rw [klineF, if_pos (fitC h (by omega) (by omega) x0 (by omega) (by omega) (by omega))]
  · rw [lineF, strOfNums_size, lineL_len, Int.toNat_natCast]
/-- What it asks of the chambers in a stage. -/
theorem kilns_list {m : Nat} {xs : List Int} {x y : Int} {t : Nat} (h : okB m xs = true) (x0 : 0 ≤ x) (x1 : x < 200) (y0 : 0 ≤ y) (y1 : y < m) (ht : t < 6) :
    ∃ l, chambL m xs t x = l ∧ codeF m xs 0 x t = 0 ∧ RiseB l m ∧ decide (y ∈ l) = (atF m xs y x == (t : Int)) ∧ belowN m xs (t + 1) = belowN m xs t + l.length ∧ (0 < t → (l.length : Int) = nth xs (t - 1)) ∧ l.length ≤ m := by
  obtain ⟨h6, h24, hL, _⟩ := okB_parts h
  have hc : codeF m xs 0 x t = 0 := fitC h (by omega) (by omega) x0 (by omega) (by omega) (by omega)
  obtain ⟨s, rfl⟩ := Int.eq_ofNat_of_zero_le x0
  refine ⟨inL m xs t s m, by rw [chambL, if_pos hc, Int.toNat_natCast], hc, inL_rise m, ?_, ?_, ?_, inL_len _ _ _ _ _⟩
  · rw [Bool.eq_iff_iff, decide_eq_true_eq, beq_iff_eq, inL_mem]
    obtain ⟨c, rfl⟩ := Int.eq_ofNat_of_zero_le y0
    constructor
    · rintro ⟨j, h1, h2, h3⟩
      have : c = j := by omega
      subst this; exact h3
    · intro h1; exact ⟨c, by omega, rfl, h1⟩
  · cases t with
    | zero => rw [belowN_one, ← inL_empty h s]; rfl
    | succ k => rw [belowN_succ (lensOk_len hL) (by omega), ← inL_stage h s k (by omega)]; rfl
  · intro h0
    obtain ⟨k, rfl⟩ : ∃ k, t = k + 1 := ⟨t - 1, by omega⟩
    rw [show k + 1 - 1 = k by omega, ← inL_stage h s k (by omega)]; rfl
theorem belowN_bound {m : Nat} {xs : List Int} (h : okB m xs = true) {t : Nat} (ht : t ≤ 6) : 0 ≤ belowN m xs t ∧ belowN m xs t ≤ 100 := by
  obtain ⟨h6, h24, hL, hS⟩ := okB_parts h
  rw [belowN]
  split
  · omega
  · have := psum_bound hL (t - 1) (by omega)
    have := psum_mono hL (k := t - 1) (by omega)
    omega
end Go.Proofs.YtnccooeaeomjfaaDoor
