/- Causes read from texts: the plain law. No function is walked here. -/
import Derived.Test.YtmapjepdcbpalaaDoorCT
import Derived.Test.YtmapjepdcbpalaaDoorN3
import Derived.Test.YtmapjepdcbpalaaDoorPS
import Derived.Lib.SlicesS
namespace Go.Proofs.YtmapjepdcbpalaaDoor
open Go.RowKit
set_option linter.unusedVariables false

theorem index_hit1 (b : UInt8) : ∀ (p r : List UInt8), b ∉ p → Lib.index (p ++ b :: r) [b] = (p.length : Int)
  | [], r, _ => by simp [Lib.index, List.isPrefixOf]
  | c :: p, r, h => by
    have hne : b ≠ c := fun e => h (by simp [e])
    have ih := index_hit1 b p r (fun hm => h (List.mem_cons_of_mem _ hm))
    have h1 : ((p.length : Int) == -1) = false := by rw [beq_eq_false_iff_ne]; omega
    simp [Lib.index, List.isPrefixOf, hne, ih, h1]
theorem index_none1 (b : UInt8) : ∀ (l : List UInt8), b ∉ l → Lib.index l [b] = -1
  | [], _ => by simp [Lib.index]
  | c :: l, h => by
    have hne : b ≠ c := fun e => h (by simp [e])
    have ih := index_none1 b l (fun hm => h (List.mem_cons_of_mem _ hm))
    simp [Lib.index, List.isPrefixOf, hne, ih]
theorem cut_hit {b : UInt8} {p r : List UInt8} (h : b ∉ p) : Lib.cut (p ++ b :: r) [b] = (p, r, true) := by
  rw [Lib.cut, index_hit1 b p r h, if_pos (by omega)]
  simp [List.drop_append]
theorem cut_none {b : UInt8} {l : List UInt8} (h : b ∉ l) : Lib.cut l [b] = (l, [], false) := by
  rw [Lib.cut, index_none1 b l h, if_neg (by omega)]

def wordL (k : Int) : List UInt8 := (wordS k).data.toList
theorem causeS_list {c : Cause} (h : causeB c = true) : (causeS c).data.toList = wordL c.Kind ++ 32 :: Lib.itoa c.Number := by
  rw [causeS, if_pos h]
  simp [ByteArray.data_append, wordL, decS]
theorem causeS_none {c : Cause} (h : causeB c = false) : (causeS c).data.toList = [] := by rw [causeS, h]; rfl
theorem no32_word (k : Int) : (32 : UInt8) ∉ wordL k := by
  unfold wordL wordS
  split
  · decide
  · split <;> decide
theorem no32_num {n : Int} (h : 0 ≤ n) : (32 : UInt8) ∉ Lib.itoa n := by
  obtain ⟨u, rfl⟩ := Int.eq_ofNat_of_zero_le h
  rw [Lib.itoa_nonneg]
  intro hm
  have := (dec_digits u 32 hm).1
  exact absurd this (by decide)
theorem word_ne {j k : Int} (hj : j = 1 ∨ j = 2 ∨ j = 3) (hk : k = 1 ∨ k = 2 ∨ k = 3) (h : wordL j = wordL k) : j = k := by
  rcases hj with rfl | rfl | rfl <;> rcases hk with rfl | rfl | rfl <;> first | rfl | (exact absurd h (by decide))
theorem numO_cause {n : Int} (h1 : 1 ≤ n) (h2 : n ≤ 20) : numO (Lib.itoa n) = some n := numO_iff.2 ⟨rfl, Nat.lt_of_lt_of_le (show n.natAbs < 21 by omega) (by decide)⟩
/-- The cause with a text. -/
def IsRead (l : List UInt8) (c : Cause) : Prop := causeB c = true ∧ (causeS c).data.toList = l
theorem IsRead.split {l : List UInt8} {c : Cause} (h : IsRead l c) : splitL 32 l = [wordL c.Kind, Lib.itoa c.Number] := by
  obtain ⟨_, h1, _⟩ := causeB_is h.1
  rw [← h.2, causeS_list h.1]
  exact split_two.2 ⟨rfl, no32_word _, no32_num (by omega)⟩
theorem IsRead.cut {l : List UInt8} {c : Cause} (h : IsRead l c) : Lib.cut l [32] = (wordL c.Kind, Lib.itoa c.Number, true) := by
  rw [← h.2, causeS_list h.1]
  exact cut_hit (no32_word _)
theorem IsRead.uniq {l : List UInt8} {c d : Cause} (h : IsRead l c) (k : IsRead l d) : c = d := by
  have e := h.split.symm.trans k.split
  simp only [List.cons.injEq, and_true] at e
  obtain ⟨hk, h1, h2⟩ := causeB_is h.1
  obtain ⟨kk, k1, k2⟩ := causeB_is k.1
  have e1 := word_ne hk kk e.1
  have e2 : c.Number = d.Number := by
    have := numO_cause h1 h2
    rw [e.2, numO_cause k1 k2] at this
    exact (Option.some.inj this).symm
  cases c; cases d; simp_all
theorem IsRead.of_split {l p q : List UInt8} {n k : Int} (h : splitL 32 l = [p, q]) (hn : numO q = some n) (hp : p = wordL k) (hc : causeB ⟨k, n⟩ = true) : IsRead l ⟨k, n⟩ := by
  refine ⟨hc, ?_⟩
  rw [causeS_list hc, (split_two.1 h).1, hp, (numO_iff.1 hn).1]
open Classical in
/-- What both answer. -/
noncomputable def readC (l : List UInt8) : Option Cause := if h : ∃ c, IsRead l c then some h.choose else none
theorem readC_some {l : List UInt8} {c : Cause} (h : IsRead l c) : readC l = some c := by
  have hx : ∃ c, IsRead l c := ⟨c, h⟩
  rw [readC, dif_pos hx, hx.choose_spec.uniq h]
theorem readC_none {l : List UInt8} (h : ∀ c, ¬ IsRead l c) : readC l = none := by
  rw [readC, dif_neg (fun ⟨c, hc⟩ => h c hc)]
noncomputable def readV (l : List UInt8) : Value := match readC l with
  | some c => .tuple #[.agg #[.int .i64 c.Kind, .int .i64 c.Number], .bool true]
  | none => .tuple #[.agg #[.int .i64 0, .int .i64 0], .bool false]
theorem readV_some {l : List UInt8} {c : Cause} (h : IsRead l c) : readV l = .tuple #[.agg #[.int .i64 c.Kind, .int .i64 c.Number], .bool true] := by rw [readV, readC_some h]
theorem readV_none {l : List UInt8} (h : ∀ c, ¬ IsRead l c) : readV l = .tuple #[.agg #[.int .i64 0, .int .i64 0], .bool false] := by rw [readV, readC_none h]
theorem not_two {l : List UInt8} (h : (splitL 32 l).length ≠ 2) : ∀ c, ¬ IsRead l c := fun c hc => h (by rw [hc.split]; rfl)
theorem not_num {l p q : List UInt8} (h : splitL 32 l = [p, q]) (hn : numO q = none) : ∀ c, ¬ IsRead l c := fun c hc => by
  have e := h.symm.trans hc.split
  simp only [List.cons.injEq, and_true] at e
  obtain ⟨_, h1, h2⟩ := causeB_is hc.1
  rw [e.2, numO_cause h1 h2] at hn; cases hn
theorem not_word {l p q : List UInt8} {n : Int} (h : splitL 32 l = [p, q]) (hn : numO q = some n) (hw : ∀ j : Nat, j < 3 → ¬ (p = wordL ((j : Int) + 1) ∧ causeB ⟨(j : Int) + 1, n⟩ = true)) : ∀ c, ¬ IsRead l c := fun c hc => by
  have e := h.symm.trans hc.split
  simp only [List.cons.injEq, and_true] at e
  obtain ⟨hk, h1, h2⟩ := causeB_is hc.1
  rw [e.2, numO_cause h1 h2] at hn
  obtain rfl := Option.some.inj hn
  have h3 : (((c.Kind - 1).toNat : Nat) : Int) + 1 = c.Kind := by omega
  exact hw (c.Kind - 1).toNat (by omega) (by rw [h3]; exact ⟨e.1, hc.1⟩)
/-- The program's. -/
theorem impl_none {l : List UInt8} (hn : numO (Lib.cut l [32]).2.1 = none) : ∀ c, ¬ IsRead l c := fun c hc => by
  rw [hc.cut] at hn
  obtain ⟨_, h1, h2⟩ := causeB_is hc.1
  rw [numO_cause h1 h2] at hn; cases hn
theorem impl_yes {l : List UInt8} {c : Cause} {n : Int} (hn : numO (Lib.cut l [32]).2.1 = some n) (h : (causeS c).data.toList = l) : IsRead l c := by
  refine ⟨?_, h⟩
  rcases Bool.eq_false_or_eq_true (causeB c) with g | g
  · exact g
  · rw [causeS_none g] at h
    subst h
    have e : Lib.cut [] [32] = (([], [], false) : List UInt8 × List UInt8 × Bool) := cut_none (by simp)
    rw [e] at hn
    have : numO [] = none := by decide
    rw [this] at hn; cases hn
theorem idx_word {k : Int} (hk : k = 1 ∨ k = 2 ∨ k = 3) : Lib.idxOfS [⟨#[]⟩, wordS 1, wordS 2, wordS 3] ⟨(wordL k).toArray⟩ = k := by
  rcases hk with rfl | rfl | rfl <;> decide
theorem impl_no {l : List UInt8} {n : Int} (hn : numO (Lib.cut l [32]).2.1 = some n) (h : (causeS ⟨Lib.idxOfS [⟨#[]⟩, wordS 1, wordS 2, wordS 3] ⟨(Lib.cut l [32]).1.toArray⟩, n⟩).data.toList ≠ l) : ∀ c, ¬ IsRead l c := fun c hc => by
  obtain ⟨hk, h1, h2⟩ := causeB_is hc.1
  rw [hc.cut] at hn h
  rw [numO_cause h1 h2] at hn
  obtain rfl := Option.some.inj hn
  rw [idx_word hk] at h
  exact h hc.2
end Go.Proofs.YtmapjepdcbpalaaDoor
