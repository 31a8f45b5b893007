/- Rules read from a text: the plain law, the reference's way and the program's. No function is walked here. -/
import Derived.Test.YtoghgbbepjpelaaGreatDoorHT0
import Derived.Lib.SplitLaws
namespace Go.Proofs.YtoghgbbepjpelaaGreatDoor
open Go.RowKit
set_option linter.unusedVariables false

theorem hr_index_hit (b : UInt8) : ∀ (p r : List UInt8), b ∉ p → Lib.index (p ++ b :: r) [b] = (p.length : Int)
  | [], r, _ => by simp [Lib.index, List.isPrefixOf]
  | c :: p, r, h => by
    have hne : b ≠ c := fun e => h (by simp [e])
    have ih := hr_index_hit b p r (fun hm => h (List.mem_cons_of_mem _ hm))
    have h1 : ((p.length : Int) == -1) = false := by rw [beq_eq_false_iff_ne]; omega
    simp [Lib.index, List.isPrefixOf, hne, ih, h1]
theorem hr_index_none (b : UInt8) : ∀ (l : List UInt8), b ∉ l → Lib.index l [b] = -1
  | [], _ => by simp [Lib.index]
  | c :: l, h => by
    have hne : b ≠ c := fun e => h (by simp [e])
    have ih := hr_index_none b l (fun hm => h (List.mem_cons_of_mem _ hm))
    simp [Lib.index, List.isPrefixOf, hne, ih]
theorem hr_cut_hit {b : UInt8} {p r : List UInt8} (h : b ∉ p) : Lib.cut (p ++ b :: r) [b] = (p, r, true) := by
  rw [Lib.cut, hr_index_hit b p r h, if_pos (by omega)]
  simp [List.drop_append]

theorem join_split (b : UInt8) : ∀ (m : Nat) (l : List UInt8), l.length ≤ m → Lib.join (splitL b l) [b] = l := by
  intro m
  induction m with
  | zero =>
    intro l hl
    have : l = [] := List.length_eq_zero_iff.1 (by omega)
    subst this
    rw [split_none (by simp), Lib.join_one]
  | succ m ih =>
    intro l hl
    rcases first_of b l with h | ⟨p, r, rfl, hp⟩
    · rw [split_none h, Lib.join_one]
    · have hr : r.length ≤ m := by simp at hl; omega
      rw [split_hit hp]
      have h1 := ih r hr
      cases e : splitL b r with
      | nil => exact absurd e (split_ne b r)
      | cons a t =>
        rw [e, Lib.join_cons] at h1
        rw [Lib.join_cons, Lib.joinTail, List.map_cons, List.flatten_cons, ← Lib.joinTail, ← h1]
        simp
theorem splitK_all (b : UInt8) : ∀ (m : Nat) (l : List UInt8), l.length ≤ m → ∀ k, (splitL b l).length ≤ k + 1 → Lib.splitK [b] 0 k l = splitL b l := by
  intro m
  induction m with
  | zero =>
    intro l hl k hk
    have : l = [] := List.length_eq_zero_iff.1 (by omega)
    subst this
    rw [split_none (by simp)]
    cases k with
    | zero => rfl
    | succ k => rw [Lib.splitK, hr_index_none b [] (by simp)]; rfl
  | succ m ih =>
    intro l hl k hk
    rcases first_of b l with h | ⟨p, r, rfl, hp⟩
    · rw [split_none h]
      cases k with
      | zero => rfl
      | succ k => rw [Lib.splitK, hr_index_none b l h]; rfl
    · have hr : r.length ≤ m := by simp at hl; omega
      rw [split_hit hp] at hk ⊢
      have hne := split_ne b r
      cases k with
      | zero =>
        have : (splitL b r).length = 0 := by simp at hk; exact congrArg List.length hk
        exact absurd (List.length_eq_zero_iff.1 this) hne
      | succ k =>
        have h1 : ((p.length : Int) == -1) = false := by rw [beq_eq_false_iff_ne]; omega
        rw [Lib.splitK, hr_index_hit b p r hp, h1]
        simp only [Bool.false_eq_true, if_false, Int.toNat_natCast, Nat.add_zero]
        rw [List.take_left' rfl, ← ih r hr k (by simp at hk; omega), show List.drop (p.length + [b].length) (p ++ b :: r) = r by simp [List.drop_append]]

/-- The rules with a text. -/
def IsRs (l : List UInt8) (xs : List HeatRule) : Prop := rulesOk xs = true ∧ rulesT xs = l
theorem wide_mem {xs : List HeatRule} (h : rulesOk xs = true) {r : HeatRule} (hr : r ∈ xs) : wideR r := by
  obtain ⟨k, hk, rfl⟩ := List.getElem_of_mem hr
  have := wide_of_ok h hk
  rwa [nt_lt hk] at this
theorem split_join {ps : List (List UInt8)} {b : UInt8} (hne : ps ≠ []) (h : ∀ p ∈ ps, b ∉ p) : splitL b (Lib.join ps [b]) = ps := by
  induction ps with
  | nil => exact absurd rfl hne
  | cons a t ih =>
    have ha := h a (by simp)
    cases t with
    | nil => rw [Lib.join_one, split_none ha]
    | cons c t =>
      have h1 := ih (by simp) (fun p hp => h p (List.mem_cons_of_mem _ hp))
      rw [Lib.join_cons] at h1
      rw [Lib.join_cons, Lib.joinTail, List.map_cons, List.flatten_cons, ← Lib.joinTail]
      rw [show a ++ ([b] ++ c ++ Lib.joinTail [b] t) = a ++ b :: (c ++ Lib.joinTail [b] t) by simp, split_hit ha, h1]
theorem IsRs.split {l : List UInt8} {xs : List HeatRule} (h : IsRs l xs) : splitL 32 l = xs.map ruleT := by
  have hl := ok_len h.1
  rw [← h.2, rulesT]
  refine split_join (fun e => ?_) (fun p hp => ?_)
  · have := congrArg List.length e; simp at this; subst this; simp at hl
  · obtain ⟨r, hr, rfl⟩ := List.mem_map.1 hp
    exact no32_rule (wide_mem h.1 hr)
/-- The words of some rules are read as these rules. -/
def ReadW (f : List UInt8 → Option HeatRule) (ws : List (List UInt8)) (rs : List HeatRule) : Prop := rs.length ≤ ws.length ∧ ∀ j, j < rs.length → f (nt ws j) = some (nt rs j)
theorem ReadW.zero (f : List UInt8 → Option HeatRule) (ws : List (List UInt8)) : ReadW f ws [] := ⟨by simp, fun j hj => absurd hj (by simp)⟩
theorem ReadW.snoc {f : List UInt8 → Option HeatRule} {ws : List (List UInt8)} {rs : List HeatRule} {r : HeatRule} (h : ReadW f ws rs) (hl : rs.length < ws.length) (hr : f (nt ws rs.length) = some r) : ReadW f ws (rs ++ [r]) := by
  refine ⟨by simp; omega, fun j hj => ?_⟩
  rw [List.length_append, List.length_singleton] at hj
  rcases Nat.lt_or_ge j rs.length with h1 | h1
  · rw [h.2 j h1]; simp [nt, List.getD_eq_getElem?_getD, List.getElem?_append_left h1]
  · obtain rfl : j = rs.length := by omega
    rw [hr]; simp [nt]
theorem ReadW.uniq {f : List UInt8 → Option HeatRule} {xs rs : List HeatRule} (hf : ∀ r ∈ xs, f (ruleT r) = some r) (h : ReadW f (xs.map ruleT) rs) (hl : rs.length = xs.length) : rs = xs := by
  refine eq_of_nt hl fun k hk => ?_
  have h1 := h.2 k hk
  have hk' : k < xs.length := by omega
  have e : nt (xs.map ruleT) k = ruleT (nt xs k) := by rw [nt_lt (by simpa using hk'), nt_lt hk']; simp
  rw [e, hf _ (nt_mem hk')] at h1
  exact (Option.some.inj h1).symm
theorem ReadW.reads {f : List UInt8 → Option HeatRule} {xs : List HeatRule} (hf : ∀ r ∈ xs, f (ruleT r) = some r) {k : Nat} (hk : k < xs.length) : f (nt (xs.map ruleT) k) = some (nt xs k) := by
  have e : nt (xs.map ruleT) k = ruleT (nt xs k) := by rw [nt_lt (by simpa using hk), nt_lt hk]; simp
  rw [e, hf _ (nt_mem hk)]

open Classical in
/-- What both answer. -/
noncomputable def readRs (l : List UInt8) : Option (List HeatRule) := if h : ∃ xs, IsRs l xs then some h.choose else none
theorem IsRs.uniq {l : List UInt8} {xs ys : List HeatRule} (h : IsRs l xs) (k : IsRs l ys) : xs = ys := by
  have e := h.split.symm.trans k.split
  have hw : ∀ zs : List HeatRule, rulesOk zs = true → ∀ r ∈ zs, wordR (ruleT r) = some r := fun zs hz r hr => wordR_some (wide_mem hz hr)
  have hl := congrArg List.length e
  simp only [List.length_map] at hl
  refine eq_of_nt hl fun j hj => ?_
  have h1 := ReadW.reads (hw xs h.1) hj
  rw [e, ReadW.reads (hw ys k.1) (by omega)] at h1
  exact (Option.some.inj h1).symm
theorem readRs_some {l : List UInt8} {xs : List HeatRule} (h : IsRs l xs) : readRs l = some xs := by
  have hx : ∃ xs, IsRs l xs := ⟨xs, h⟩
  rw [readRs, dif_pos hx, hx.choose_spec.uniq h]
theorem readRs_none {l : List UInt8} (h : ∀ xs, ¬ IsRs l xs) : readRs l = none := by
  rw [readRs, dif_neg (fun ⟨c, hc⟩ => h c hc)]
noncomputable def readL (l : List UInt8) : List HeatRule := (readRs l).getD []
noncomputable def readB (l : List UInt8) : Bool := (readRs l).isSome

/-- The reference's way. -/
theorem spec_bad {l : List UInt8} {k : Nat} (hk : k < (splitL 32 l).length) (h : wordR (nt (splitL 32 l) k) = none) : readRs l = none := readRs_none fun xs hx => by
  have e := hx.split
  rw [e] at h hk
  rw [ReadW.reads (fun r hr => wordR_some (wide_mem hx.1 hr)) (by simpa using hk)] at h
  cases h
theorem spec_done {l : List UInt8} {rs : List HeatRule} (h : ReadW wordR (splitL 32 l) rs) (hl : rs.length = (splitL 32 l).length) : readRs l = if rulesOk rs = true then some rs else none := by
  have e : splitL 32 l = rs.map ruleT := by
    refine eq_of_nt (by simpa using hl.symm) fun k hk => ?_
    have hk2 : k < rs.length := by omega
    have hk3 : k < (rs.map ruleT).length := by rw [List.length_map]; exact hk2
    have h1 := wordR_is (h.2 k hk2)
    rw [h1, nt_lt hk3, nt_lt hk2]; simp
  split
  · rename_i hok
    refine readRs_some ⟨hok, ?_⟩
    rw [rulesT, ← e]
    exact join_split 32 _ l (Nat.le_refl _)
  · rename_i hok
    refine readRs_none fun xs hx => hok ?_
    have e2 := hx.split
    rw [e2] at h hl
    rw [ReadW.uniq (fun r hr => wordR_some (wide_mem hx.1 hr)) h (by simpa using hl)]
    exact hx.1

/-- The program's way: a word. -/
def riseL (l : List UInt8) : List UInt8 := (Lib.cut l [62]).1
def restL (l : List UInt8) : List UInt8 := (Lib.cut l [62]).2.1
def uptoL (l : List UInt8) : List UInt8 := (Lib.cut (restL l) [42]).1
def holdL (l : List UInt8) : List UInt8 := (Lib.cut (restL l) [42]).2.1
def wordI (l : List UInt8) : Option HeatRule := match numO (riseL l), numO (uptoL l), numO (holdL l) with
  | some a, some b, some c => some ⟨b, a, c⟩
  | _, _, _ => none
theorem wordI_some {r : HeatRule} (h : wideR r) : wordI (ruleT r) = some r := by
  obtain ⟨⟨a0, a1⟩, ⟨b0, b1⟩, c0, c1⟩ := h
  have e1 : Lib.cut (ruleT r) [62] = (Lib.itoa r.Rise, Lib.itoa r.Upto ++ 42 :: Lib.itoa r.Hold, true) := by
    rw [ruleT_form]; exact hr_cut_hit (itoa_no (by decide) b0)
  have e2 : Lib.cut (Lib.itoa r.Upto ++ 42 :: Lib.itoa r.Hold) [42] = (Lib.itoa r.Upto, Lib.itoa r.Hold, true) := hr_cut_hit (itoa_no (by decide) a0)
  have er : restL (ruleT r) = Lib.itoa r.Upto ++ 42 :: Lib.itoa r.Hold := by rw [restL, e1]
  rw [wordI, riseL, uptoL, holdL, er, e1, e2]
  simp only
  rw [numO_small a0 (by omega), numO_small b0 (by omega), numO_small c0 (by omega)]
/-- The words at which the program looks. -/
def wordsI (l : List UInt8) : List (List UInt8) := Lib.splitK [32] 0 (min 9 (l.length + 1) - 1) l
theorem IsRs.words {l : List UInt8} {xs : List HeatRule} (h : IsRs l xs) : wordsI l = xs.map ruleT := by
  have hl := ok_len h.1
  have h2 := split_len 32 l []
  have e := h.split
  have e2 : (splitL 32 l).length = xs.length := by rw [e]; simp
  rw [wordsI, splitK_all 32 _ l (Nat.le_refl _) _ (by have : (splitL 32 l).length ≤ l.length + 1 := h2; omega), e]
theorem impl_bad {l : List UInt8} {k : Nat} (hk : k < (wordsI l).length) (h : wordI (nt (wordsI l) k) = none) : readRs l = none := readRs_none fun xs hx => by
  have e := hx.words
  rw [e] at h hk
  rw [ReadW.reads (fun r hr => wordI_some (wide_mem hx.1 hr)) (by simpa using hk)] at h
  cases h
theorem impl_done {l : List UInt8} {rs : List HeatRule} (h : ReadW wordI (wordsI l) rs) (hl : rs.length = (wordsI l).length) (hs : rulesS rs = ⟨l.toArray⟩) (hne : rs ≠ []) (hl0 : l ≠ []) : readRs l = some rs := by
  have hok : rulesOk rs = true := by
    rcases Bool.eq_false_or_eq_true (rulesOk rs) with g | g
    · exact g
    · rw [rulesS_no g] at hs
      have h1 := congrArg (fun b => b.data.toList) hs
      simp at h1
      exact absurd h1 hl0
  rw [rulesS_ok hok] at hs
  refine readRs_some ⟨hok, ?_⟩
  have h1 := congrArg (fun b => b.data.toList) hs
  simpa using h1
theorem impl_not {l : List UInt8} {rs : List HeatRule} (h : ReadW wordI (wordsI l) rs) (hl : rs.length = (wordsI l).length) (hs : rulesS rs ≠ ⟨l.toArray⟩) : readRs l = none := readRs_none fun xs hx => hs (by
  have e := hx.words
  rw [e] at h hl
  have := ReadW.uniq (fun r hr => wordI_some (wide_mem hx.1 hr)) h (by simpa using hl)
  subst this
  rw [rulesS_ok hx.1, hx.2])
theorem wordI_nil : wordI [] = none := by decide
theorem wordsI_nil : wordsI [] = [[]] := rfl
end Go.Proofs.YtoghgbbepjpelaaGreatDoor
