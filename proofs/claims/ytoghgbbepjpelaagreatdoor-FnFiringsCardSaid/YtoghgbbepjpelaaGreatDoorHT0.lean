/- Rules as a text, read from a text: the plain part. No function is walked here. -/
import Derived.Test.YtoghgbbepjpelaaGreatDoorHR1
import Derived.Test.YtoghgbbepjpelaaGreatDoorN1
import Derived.Test.YtoghgbbepjpelaaGreatDoorN3
import Derived.Test.YtoghgbbepjpelaaGreatDoorPS
import Derived.Lib.Join
namespace Go.Proofs.YtoghgbbepjpelaaGreatDoor
open Go.RowKit
set_option linter.unusedVariables false

/-- A rule as a text. -/
def ruleT (r : HeatRule) : List UInt8 := (((Lib.itoa r.Rise ++ [62]) ++ Lib.itoa r.Upto) ++ [42]) ++ Lib.itoa r.Hold
/-- Some rules as a text. -/
def rulesT (xs : List HeatRule) : List UInt8 := Lib.join (xs.map ruleT) [32]
def rulesS (xs : List HeatRule) : ByteArray := if rulesOk xs = true then ⟨(rulesT xs).toArray⟩ else ⟨#[]⟩
theorem rulesS_ok {xs : List HeatRule} (h : rulesOk xs = true) : rulesS xs = ⟨(rulesT xs).toArray⟩ := by rw [rulesS, if_pos h]
theorem rulesS_no {xs : List HeatRule} (h : rulesOk xs = false) : rulesS xs = ⟨#[]⟩ := by rw [rulesS, h]; rfl
/-- Numbers of a rule that are not too great. -/
def wideR (r : HeatRule) : Prop := (0 ≤ r.Upto ∧ r.Upto ≤ 1300) ∧ (0 ≤ r.Rise ∧ r.Rise ≤ 300) ∧ 0 ≤ r.Hold ∧ r.Hold ≤ 48
theorem wide_of_ok {xs : List HeatRule} (h : rulesOk xs = true) {k : Nat} (hk : k < xs.length) : wideR (nt xs k) := by
  simp only [rulesOk, Bool.and_eq_true] at h
  have h1 := rulesUp_at h.1 hk
  simp only [ruleB, Bool.and_eq_true, inB_true] at h1
  unfold wideR
  omega
theorem ok_len {xs : List HeatRule} (h : rulesOk xs = true) : 1 ≤ xs.length ∧ xs.length ≤ 8 := by
  simp only [rulesOk, Bool.and_eq_true, inB_true] at h; omega

theorem join_snoc {xs : List (List UInt8)} {x sep : List UInt8} (h : xs ≠ []) : Lib.join (xs ++ [x]) sep = (Lib.join xs sep ++ sep) ++ x := by
  cases xs with
  | nil => exact absurd rfl h
  | cons a r =>
    rw [List.cons_append, Lib.join_cons, Lib.join_cons, Lib.joinTail, Lib.joinTail]
    simp [List.append_assoc]
theorem rulesT_one {xs : List HeatRule} (h : 0 < xs.length) : rulesT (xs.take (0 + 1)) = ruleT (nt xs 0) := by
  rw [take_snoc_nt h]
  simp [rulesT, Lib.join_one]
theorem rulesT_succ {xs : List HeatRule} {k : Nat} (h : k < xs.length) (hk : 0 < k) : rulesT (xs.take (k + 1)) = (rulesT (xs.take k) ++ [32]) ++ ruleT (nt xs k) := by
  rw [take_snoc_nt h, rulesT, rulesT, List.map_append, List.map_cons, List.map_nil, join_snoc]
  intro e
  have := congrArg List.length e
  simp only [List.length_map, List.length_take, List.length_nil] at this; omega
theorem itoa_len {n : Int} (h0 : 0 ≤ n) (h1 : n ≤ 9999) : (Lib.itoa n).length ≤ 21 := by
  have := decS_size n (by omega) (by omega)
  rw [decS, Lib.size_eq] at this
  simpa using this
theorem ruleT_len {r : HeatRule} (h : wideR r) : (ruleT r).length ≤ 65 := by
  obtain ⟨⟨a0, a1⟩, ⟨b0, b1⟩, c0, c1⟩ := h
  have h1 := itoa_len a0 (by omega); have h2 := itoa_len b0 (by omega); have h3 := itoa_len c0 (by omega)
  simp only [ruleT, List.length_append, List.length_cons, List.length_nil]; omega
theorem rulesT_len {xs : List HeatRule} (h : ∀ k, k < xs.length → wideR (nt xs k)) : ∀ k, k ≤ xs.length → (rulesT (xs.take k)).length ≤ 66 * k := by
  intro k
  induction k with
  | zero => intro _; simp [rulesT, Lib.join_nil]
  | succ k ih =>
    intro hk
    have h1 := ih (by omega)
    have h2 := ruleT_len (h k (by omega))
    rcases Nat.eq_zero_or_pos k with hz | hp
    · subst hz; rw [rulesT_one (by omega)]; omega
    · rw [rulesT_succ (by omega) hp]; simp only [List.length_append, List.length_cons, List.length_nil]; omega

/-- The text read. -/
theorem itoa_no {b : UInt8} (hb : ¬ (48 ≤ b.toNat ∧ b.toNat ≤ 57)) {n : Int} (h : 0 ≤ n) : b ∉ Lib.itoa n := by
  obtain ⟨u, rfl⟩ := Int.eq_ofNat_of_zero_le h
  rw [Lib.itoa_nonneg]
  intro hm
  exact hb (dec_digits u b hm)
theorem numO_small {n : Int} (h1 : 0 ≤ n) (h2 : n ≤ 9999) : numO (Lib.itoa n) = some n := numO_iff.2 ⟨rfl, Nat.lt_of_lt_of_le (show n.natAbs < 10000 by omega) (by decide)⟩
/-- One word read as a rule. -/
def wordR (l : List UInt8) : Option HeatRule :=
  match splitL 62 l with
  | [p, q] => match splitL 42 q with
    | [u, v] => match numO p, numO u, numO v with
      | some a, some b, some c => some ⟨b, a, c⟩
      | _, _, _ => none
    | _ => none
  | _ => none
theorem no32_rule {r : HeatRule} (h : wideR r) : (32 : UInt8) ∉ ruleT r := by
  obtain ⟨⟨a0, a1⟩, ⟨b0, b1⟩, c0, c1⟩ := h
  have h1 := itoa_no (b := 32) (by decide) a0; have h2 := itoa_no (b := 32) (by decide) b0; have h3 := itoa_no (b := 32) (by decide) c0
  simp only [ruleT, List.mem_append, List.mem_cons, List.not_mem_nil, or_false, not_or]
  exact ⟨⟨⟨⟨h2, by decide⟩, h1⟩, by decide⟩, h3⟩
theorem ruleT_form (r : HeatRule) : ruleT r = Lib.itoa r.Rise ++ 62 :: (Lib.itoa r.Upto ++ 42 :: Lib.itoa r.Hold) := by simp [ruleT, List.append_assoc]
theorem wordR_some {r : HeatRule} (h : wideR r) : wordR (ruleT r) = some r := by
  obtain ⟨⟨a0, a1⟩, ⟨b0, b1⟩, c0, c1⟩ := h
  have e1 : splitL 62 (ruleT r) = [Lib.itoa r.Rise, Lib.itoa r.Upto ++ 42 :: Lib.itoa r.Hold] := by
    rw [ruleT_form]
    refine split_two.2 ⟨rfl, itoa_no (by decide) b0, ?_⟩
    simp only [List.mem_append, List.mem_cons, not_or]
    exact ⟨itoa_no (by decide) a0, by decide, itoa_no (by decide) c0⟩
  have e2 : splitL 42 (Lib.itoa r.Upto ++ 42 :: Lib.itoa r.Hold) = [Lib.itoa r.Upto, Lib.itoa r.Hold] := split_two.2 ⟨rfl, itoa_no (by decide) a0, itoa_no (by decide) c0⟩
  rw [wordR, e1]
  simp only
  rw [e2]
  simp only
  rw [numO_small a0 (by omega), numO_small b0 (by omega), numO_small c0 (by omega)]
theorem wordR_is {l : List UInt8} {r : HeatRule} (h : wordR l = some r) : l = ruleT r := by
  unfold wordR at h
  split at h
  · rename_i p q hpq
    split at h
    · rename_i u v huv
      split at h
      · rename_i a b c ha hb hc
        obtain rfl := Option.some.inj h
        rw [ruleT_form, (split_two.1 hpq).1, (split_two.1 huv).1, (numO_iff.1 ha).1, (numO_iff.1 hb).1, (numO_iff.1 hc).1]
      · cases h
    · cases h
  · cases h
end Go.Proofs.YtoghgbbepjpelaaGreatDoor
