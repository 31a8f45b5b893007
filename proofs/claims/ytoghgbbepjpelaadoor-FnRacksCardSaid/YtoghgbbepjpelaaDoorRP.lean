/- Plain laws on racks: filling and emptying lead back, bricks that are spread have their sum and fit, racks keep their room. No function is walked here. -/
import Derived.Test.YtoghgbbepjpelaaDoorV5
import Derived.Test.YtoghgbbepjpelaaDoorV6
import Derived.Test.YtoghgbbepjpelaaDoorSRack
namespace Go.Proofs.YtoghgbbepjpelaaDoor
open Go.RowKit
set_option linter.unusedVariables false

theorem Rack.sameB_self (xs : List Rack) : Rack.sameB xs xs = true := Rack.sameB_yes rfl (fun k _ => by simp [Rack.eqB])
theorem racksOk_set {xs : List Rack} (h : racksOk xs = true) {m : Nat} (hm : m < xs.length) {r : Rack} (hr : r.okB = true) : racksOk (xs.set m r) = true := by
  simp only [racksOk, Bool.and_eq_true, List.all_eq_true, decide_eq_true_eq] at h ⊢
  refine ⟨fun x hx => ?_, by rw [List.length_set]; exact h.2⟩
  rcases List.mem_or_eq_of_mem_set hx with h1 | h1
  · exact h.1 x h1
  · rw [h1]; exact hr
theorem rackC_ok {xs : List Rack} {m : Nat} (h : racksOk xs = true) (hm : m < xs.length) : rackC xs m = 0 := by
  rw [rackC, if_pos h, if_pos (inB_true.2 (by omega))]
theorem okB_at {xs : List Rack} (h : racksOk xs = true) {k : Nat} (hk : k < xs.length) : (nt xs k).okB = true := by
  simp only [racksOk, Bool.and_eq_true, List.all_eq_true] at h
  exact h.1 _ (nt_mem hk)
theorem okB_empty {r : Rack} (h : r.okB = true) : (⟨r.Room, 0, 0, 0⟩ : Rack).okB = true := by
  simp only [Rack.okB, Bool.and_eq_true, inB_true] at h ⊢
  have := h.1.1.1.1
  refine ⟨⟨⟨⟨this, by omega⟩, by omega⟩, by omega⟩, by simp⟩
theorem okB_rest {r : Rack} (h : r.okB = true) (h0 : r.Holds = 0) : r = ⟨r.Room, 0, 0, 0⟩ := by
  simp only [Rack.okB, Bool.and_eq_true, Bool.or_eq_true, decide_eq_true_eq, beq_iff_eq] at h
  cases r with
  | mk a b c d =>
    simp only at h h0 ⊢
    subst h0
    rcases h.2 with h1 | ⟨rfl, rfl⟩
    · omega
    · rfl
theorem emC_parts {xs : List Rack} {k : Int} (h : emC xs k = 0) : ∃ m : Nat, k = m ∧ m < xs.length ∧ racksOk xs = true ∧ (nt xs m).Holds ≠ 0 := by
  unfold emC at h
  split at h
  · rename_i g
    obtain ⟨ok, hk⟩ := rackC_zero g
    have q := inB_true.1 hk
    obtain ⟨m, rfl⟩ := Int.eq_ofNat_of_zero_le (show 0 ≤ k by omega)
    refine ⟨m, rfl, by omega, ok, fun h0 => ?_⟩
    rw [Int.toNat_natCast, h0] at h
    simp at h
  · rename_i g; exact absurd h g
/-- An emptied rack: some bricks come out, the racks are racks. -/
theorem em_cases (xs : List Rack) (k : Int) {c v : Int} {l : List Rack} (h : emC xs k = c) (hv : emV xs k = v) (hl : emL xs k = l) : (c = 0 ∧ 1 ≤ v ∧ racksOk l = true) ∨ (c == 0) = false := by
  by_cases h0 : emC xs k = 0
  · obtain ⟨m, rfl, hm, ok, hne⟩ := emC_parts h0
    obtain ⟨g1, g2, _⟩ := em_good h0
    have hok := okB_at ok hm
    have hh : 0 ≤ (nt xs m).Holds := by
      simp only [Rack.okB, Bool.and_eq_true, inB_true] at hok
      exact hok.1.1.1.2.1
    refine .inl ⟨by rw [← h, h0], by rw [← hv, g2]; omega, ?_⟩
    rw [← hl, g1]
    exact racksOk_set ok hm (okB_empty hok)
  · exact .inr (by rw [← h]; simpa using h0)
/-- A filled rack: emptied again it is as it was. -/
theorem fi_cases (xs : List Rack) (k bricks day needs : Int) {c a d : Int} {l r : List Rack} (h : fiC xs k bricks day needs = c) (hl : fiL xs k bricks day needs = l) (hr : emL l k = r) (ha : emV l k = a) (hd : emC l k = d) :
    (c = 0 ∧ d = 0 ∧ a = bricks ∧ r = xs) ∨ (c != 0) = true := by
  by_cases h0 : fiC xs k bricks day needs = 0
  · refine .inl ⟨by rw [← h, h0], ?_⟩
    have hc := h0
    unfold fiC at hc
    split at hc
    · rename_i g
      obtain ⟨ok, hk⟩ := rackC_zero g
      have q := inB_true.1 hk
      obtain ⟨m, rfl⟩ := Int.eq_ofNat_of_zero_le (show 0 ≤ k by omega)
      have hm : m < xs.length := by omega
      obtain ⟨g1, _⟩ := fi_good h0
      rw [Int.toNat_natCast] at hc
      split at hc
      · rename_i gb
        split at hc
        · cases hc
        · rename_i gh
          split at hc
          · cases hc
          · rename_i gr
            have hok := okB_at ok hm
            have hfb := gb
            simp only [fiB, Bool.and_eq_true, inB_true] at hfb
            simp only [decide_eq_true_eq] at gh gr
            have hok' := hok
            simp only [Rack.okB, Bool.and_eq_true, inB_true] at hok'
            have hz : (nt xs m).Holds = 0 := by have := hok'.1.1.1.2.1; omega
            have hnew : (⟨(nt xs m).Room, bricks, day, needs⟩ : Rack).okB = true := by
              simp only [Rack.okB, Bool.and_eq_true, inB_true, Bool.or_eq_true, decide_eq_true_eq]
              refine ⟨⟨⟨⟨hok'.1.1.1.1, by omega⟩, hfb.2.1⟩, hfb.2.2⟩, .inl (by omega)⟩
            have ok2 := racksOk_set ok hm hnew
            have hm2 : m < (xs.set m ⟨(nt xs m).Room, bricks, day, needs⟩).length := by rw [List.length_set]; exact hm
            have hn2 : nt (xs.set m ⟨(nt xs m).Room, bricks, day, needs⟩) m = ⟨(nt xs m).Room, bricks, day, needs⟩ := by rw [nt_set hm, if_pos rfl]
            rw [g1] at hl
            subst hl
            have he : emC (xs.set m ⟨(nt xs m).Room, bricks, day, needs⟩) (m : Int) = 0 := by
              rw [emC, if_pos (rackC_ok ok2 hm2), Int.toNat_natCast, hn2]
              have : bricks ≠ 0 := by omega
              simp [this]
            obtain ⟨e1, e2, e3⟩ := em_good he
            rw [hn2] at e1 e2
            refine ⟨by rw [← hd, e3], by rw [← ha, e2], ?_⟩
            rw [← hr, e1, List.set_set]
            have h9 := okB_rest hok hz
            show xs.set m ⟨(nt xs m).Room, 0, 0, 0⟩ = xs
            rw [← h9]
            rw [nt, List.getD_eq_getElem?_getD, List.getElem?_eq_getElem hm]
            simp
      · cases hc
    · rename_i g; exact absurd hc g
  · exact .inr (by rw [← h]; simpa using h0)

/-- The sum of the first k numbers. -/
def sumF (f : Nat → Int) : Nat → Int
  | 0 => 0
  | k + 1 => sumF f k + f k
theorem sumF_upd (f : Nat → Int) (b : Nat) (v : Int) : ∀ k, sumF (upd f b v) k = if b < k then sumF f k - f b + v else sumF f k := by
  intro k
  induction k with
  | zero => simp [sumF]
  | succ k ih =>
    rw [sumF, ih, sumF, upd]
    by_cases h1 : k = b
    · subst h1; simp
    · by_cases h2 : b < k
      · rw [if_pos h2, if_neg h1, if_pos (by omega)]; omega
      · rw [if_neg h2, if_neg h1, if_neg (by omega)]
theorem sumF_zero : ∀ k, sumF (fun _ => 0) k = 0 := by
  intro k
  induction k with
  | zero => rfl
  | succ k ih => rw [sumF, ih]; rfl
theorem pickN_free {xs : List Rack} {out : Nat → Int} : ∀ {k b : Nat}, pickN xs out k = (b : Int) → (nt xs b).Holds = 0 ∧ out b = 0 := by
  intro k
  induction k with
  | zero => intro b h; simp only [pickN] at h; omega
  | succ k ih =>
    intro b h
    rw [pickN] at h
    split at h
    · rename_i g
      obtain rfl : k = b := by omega
      exact ⟨g.1, g.2.1⟩
    · exact ih h
/-- What holds of bricks that are being spread. -/
structure Spread (xs : List Rack) (bricks : Int) (p : (Nat → Int) × Int) : Prop where
  left : 0 ≤ p.2
  low : ∀ j, 0 ≤ p.1 j
  room : ∀ j, j < xs.length → p.1 j ≤ (nt xs j).Room
  free : ∀ j, j < xs.length → 0 < p.1 j → (nt xs j).Holds = 0
  sum : sumF p.1 xs.length + p.2 = bricks
theorem spread_all {xs : List Rack} (ok : racksOk xs = true) {bricks : Int} (hb : 0 ≤ bricks) : ∀ i, Spread xs bricks (stI xs xs.length bricks i) := by
  intro i
  induction i with
  | zero =>
    refine ⟨hb, fun _ => Int.le_refl _, fun j hj => ?_, fun j hj h => absurd h (Int.lt_irrefl _), ?_⟩
    · have := (racksOk_at' ok hj).1; show (0 : Int) ≤ _; omega
    · show sumF (fun _ => 0) xs.length + bricks = bricks
      rw [sumF_zero]; omega
  | succ i ih =>
    rw [stI, stS]
    split
    · exact ih
    · rename_i g
      rcases hst : stI xs xs.length bricks i with ⟨p1, p2⟩
      rw [hst] at ih g
      obtain ⟨i1, i2, i3, i4, i5⟩ := ih
      simp only at g i1 i2 i3 i4 i5 ⊢
      have hbd := pickN_bound xs p1 xs.length
      obtain ⟨b, hpb⟩ := Int.eq_ofNat_of_zero_le (show 0 ≤ pickN xs p1 xs.length by omega)
      have hbl : b < xs.length := by omega
      obtain ⟨f1, f2⟩ := pickN_free hpb
      have hroom := (racksOk_at' ok hbl).1
      rw [hpb, Int.toNat_natCast]
      refine ⟨by show 0 ≤ p2 - min p2 _; omega, fun j => ?_, fun j hj => ?_, fun j hj h => ?_, ?_⟩
      · show 0 ≤ upd p1 b _ j
        unfold upd; split
        · omega
        · exact i2 j
      · show upd p1 b _ j ≤ _
        unfold upd; split
        · rename_i e; subst e; omega
        · exact i3 j hj
      · have h : 0 < upd p1 b (min p2 (nt xs b).Room) j := h
        unfold upd at h
        split at h
        · rename_i e; subst e; exact f1
        · exact i4 j hj h
      · show sumF (upd p1 b (min p2 (nt xs b).Room)) xs.length + (p2 - min p2 (nt xs b).Room) = bricks
        rw [sumF_upd, if_pos hbl, f2]; omega
theorem sumF_bound {f : Nat → Int} {n : Nat} (h : ∀ j, j < n → 0 ≤ f j ∧ f j ≤ 2000) : ∀ k, k ≤ n → 0 ≤ sumF f k ∧ sumF f k ≤ 2000 * (k : Int) := by
  intro k
  induction k with
  | zero => intro _; simp [sumF]
  | succ k ih =>
    intro hk
    have h1 := ih (by omega)
    have h2 := h k (by omega)
    rw [sumF]
    omega
theorem sumL_F {l : List Int} (h : ∀ j, j < l.length → 0 ≤ nth l j ∧ nth l j ≤ 2000) (hl : l.length ≤ 1000) : sumL l = sumF (nth l) l.length := by
  have e : ∀ k, k ≤ l.length → sumL (l.take k) = sumF (nth l) k := by
    intro k
    induction k with
    | zero => intro _; simp [sumL, sumF]
    | succ k ih =>
      intro hk
      have hb := sumF_bound h k (by omega)
      have hj := h k (by omega)
      rw [sumL_snoc (by omega), ih (by omega), IntWalk.wrap64_in _ (by omega), sumF]
  have h1 := e l.length (Nat.le_refl _)
  rwa [List.take_of_length_le (Nat.le_refl _)] at h1
/-- The sum of the first k numbers of a list. -/
theorem sp_cases (xs : List Rack) (bricks : Int) {c : Int} {l : List Int} (h : spC xs bricks = c) (hl : spL xs bricks = l) :
    (c = 0 ∧ l.length = xs.length ∧ racksOk xs = true ∧ bricks ≤ 40000 ∧ (∀ j, j < xs.length → 0 ≤ nth l j ∧ nth l j ≤ (nt xs j).Room ∧ (0 < nth l j → (nt xs j).Holds = 0)) ∧ sumL l = bricks) ∨ (c == 0) = false := by
  by_cases h0 : spC xs bricks = 0
  · refine .inl ⟨by rw [← h, h0], ?_⟩
    have hc := h0
    unfold spC at hc
    split at hc
    · rename_i ok
      split at hc
      · rename_i g
        split at hc
        · rename_i g2
          have q := inB_true.1 g
          have hS := spread_all ok q.1 bricks.toNat
          rw [spL, if_pos h0] at hl
          subst hl
          change Spread xs bricks (spE xs bricks) at hS
          have hnth : ∀ j, j < xs.length → nth ((List.range xs.length).map (spE xs bricks).1) j = (spE xs bricks).1 j := fun j hj => nth_map_range _ hj
          refine ⟨by simp, ok, q.2, fun j hj => ?_, ?_⟩
          · rw [hnth j hj]; exact ⟨hS.low j, hS.room j hj, hS.free j hj⟩
          · have e : ∀ k, k ≤ xs.length → sumF (nth ((List.range xs.length).map (spE xs bricks).1)) k = sumF (spE xs bricks).1 k := by
              intro k
              induction k with
              | zero => intro _; rfl
              | succ k ih => intro hk; rw [sumF, sumF, ih (by omega), hnth k (by omega)]
            have h20 := racksOk_len' ok
            rw [sumL_F (by
              intro j hj
              have hj' : j < xs.length := by simpa using hj
              rw [hnth j hj']
              have h1 := hS.low j; have h2 := hS.room j hj'; have h3 := (racksOk_at' ok hj').2
              omega) (by simp; omega)]
            rw [show ((List.range xs.length).map (spE xs bricks).1).length = xs.length by simp, e _ (Nat.le_refl _)]
            have := hS.sum; have := hS.left; omega
        · cases hc
      · cases hc
    · cases hc
  · exact .inr (by rw [← h]; simpa using h0)
end Go.Proofs.YtoghgbbepjpelaaDoor
