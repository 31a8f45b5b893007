/- The number with a decimal form, the reference's way and the program's: plain laws. No function is walked here. -/
import Derived.Lib.ItoaMem
import Derived.Lib.AtoiTie
import Derived.Lib.ParseIntBTie
import Derived.Lib.Strings
namespace Go.Proofs.YtoghgbbepjpelaaGreatDoor
set_option linter.unusedVariables false

theorem dig_val {d : Nat} (h : d < 10) : Lib.digitVal (UInt8.ofNat (48 + d)) = some d := by
  have e : (UInt8.ofNat (48 + d)).toNat = 48 + d := by rw [UInt8.toNat_ofNat', Nat.mod_eq_of_lt (by omega)]
  rw [Lib.digitVal, e, if_pos (by omega)]; congr 1; omega
theorem decFrom_snoc : ∀ (l : List UInt8) (acc : Nat) (c : UInt8), Lib.decFrom acc (l ++ [c]) = (Lib.decFrom acc l).bind fun a => (Lib.digitVal c).map fun d => a * 10 + d
  | [], acc, c => by simp only [List.nil_append, Lib.decFrom, Option.bind_some]; cases Lib.digitVal c <;> rfl
  | b :: r, acc, c => by
    simp only [List.cons_append, Lib.decFrom]
    cases Lib.digitVal b with
    | none => rfl
    | some d => exact decFrom_snoc r _ c
theorem decFrom_dec (u : Nat) : Lib.decFrom 0 (Lib.decDigits u) = some u := by
  induction u using Nat.strongRecOn with
  | _ u ih =>
    rw [Lib.decDigits]
    by_cases h : u < 10
    · rw [dif_pos h]
      simp only [Lib.decFrom, dig_val h]; congr 1; omega
    · rw [dif_neg h, decFrom_snoc, ih (u / 10) (by omega), dig_val (Nat.mod_lt _ (by omega))]
      simp only [Option.bind_some, Option.map_some]; congr 1; omega
theorem dec_ne (u : Nat) : Lib.decDigits u ≠ [] := fun h => by
  have h1 := Lib.decDigits_length u
  have h2 := Lib.nDigits_pos u
  rw [h] at h1; simp at h1; omega
theorem decNat_dec (u : Nat) : Lib.decNat (Lib.decDigits u) = some u := by
  rw [Lib.decNat, if_neg (by simpa using dec_ne u)]
  exact decFrom_dec u
theorem decFrom_bad : ∀ (l : List UInt8) (acc k : Nat) (b : UInt8), l[k]? = some b → Lib.digitVal b = none → Lib.decFrom acc l = none
  | [], _, _, _, h, _ => by simp at h
  | a :: r, acc, 0, b, h, hb => by
    simp only [List.getElem?_cons_zero, Option.some.injEq] at h
    subst h
    simp only [Lib.decFrom, hb]
  | a :: r, acc, k + 1, b, h, hb => by
    simp only [List.getElem?_cons_succ] at h
    simp only [Lib.decFrom]
    cases Lib.digitVal a with
    | none => rfl
    | some d => exact decFrom_bad r _ k b h hb
/-- The first byte of a numeral without a sign is a digit. -/
theorem dec_digits : ∀ (u : Nat), ∀ c ∈ Lib.decDigits u, 48 ≤ c.toNat ∧ c.toNat ≤ 57 := by
  intro u
  induction u using Nat.strongRecOn with
  | _ u ih =>
    intro c hc
    have key : ∀ d, d < 10 → 48 ≤ (UInt8.ofNat (48 + d)).toNat ∧ (UInt8.ofNat (48 + d)).toNat ≤ 57 := fun d hd => by
      rw [UInt8.toNat_ofNat', Nat.mod_eq_of_lt (by omega)]; omega
    rw [Lib.decDigits] at hc
    by_cases h : u < 10
    · rw [dif_pos h, List.mem_singleton] at hc
      subst hc; exact key u h
    · rw [dif_neg h, List.mem_append, List.mem_singleton] at hc
      rcases hc with hc | rfl
      · exact ih (u / 10) (by omega) c hc
      · exact key _ (Nat.mod_lt _ (by omega))
/-- Without a sign. -/
def bodyL : List UInt8 → List UInt8
  | [] => []
  | c :: r => if c = 45 then r else c :: r
def negB (l : List UInt8) : Bool := l.head? == some 45
theorem body_dec (u : Nat) : bodyL (Lib.decDigits u) = Lib.decDigits u ∧ negB (Lib.decDigits u) = false := by
  have h := dec_digits u
  cases e : Lib.decDigits u with
  | nil => exact absurd e (dec_ne u)
  | cons c r =>
    have hc := h c (by rw [e]; simp)
    have hne : c ≠ 45 := fun h => by rw [h] at hc; exact absurd hc.1 (by decide)
    exact ⟨by rw [bodyL, if_neg hne], by simp [negB, hne]⟩
theorem body_trim (l : List UInt8) : Lib.trimPrefix l [45] = bodyL l := by
  cases l with
  | nil => rfl
  | cons c r =>
    by_cases h : c = 45
    · subst h; rw [bodyL, if_pos rfl]; simp [Lib.trimPrefix, Lib.hasPrefix]
    · rw [bodyL, if_neg h]; simp [Lib.trimPrefix, Lib.hasPrefix]; exact fun e => absurd e.symm h
theorem body_len (l : List UInt8) : (bodyL l).length = if negB l = true then l.length - 1 else l.length := by
  cases l with
  | nil => rfl
  | cons c r =>
    by_cases h : c = 45
    · subst h; simp [bodyL, negB]
    · simp [bodyL, negB, h]

/-- With a sign. -/
def sgn (b : Bool) (u : Nat) : Int := if b = true then -(u : Int) else u
theorem sgn_abs (b : Bool) (u : Nat) : (sgn b u).natAbs = u := by unfold sgn; split <;> simp
/-- The reference's number. -/
def numO (l : List UInt8) : Option Int :=
  if 1 ≤ (bodyL l).length ∧ (bodyL l).length ≤ 18 then
    match Lib.decFrom 0 (bodyL l) with
    | some u => if Lib.itoa (sgn (negB l) u) = l then some (sgn (negB l) u) else none
    | none => none
  else none
/-- The program's. -/
def rdO (l : List UInt8) : Option Int :=
  if 19 < l.length ∨ 18 < (bodyL l).length then none
  else match Lib.parseIntB 64 l with
    | .ok v => if Lib.itoa v = l then some v else none
    | _ => none
theorem rdO_ok {l : List UInt8} {v : Int} (h : ¬ (19 < l.length ∨ 18 < (bodyL l).length)) (hp : Lib.parseIntB 64 l = .ok v) : rdO l = if Lib.itoa v = l then some v else none := by rw [rdO, if_neg h, hp]
theorem rdO_err {l : List UInt8} (hp : ∀ v, Lib.parseIntB 64 l ≠ .ok v) : rdO l = none := by
  rw [rdO]; split
  · rfl
  · split
    · rename_i v hv; exact absurd hv (hp v)
    · rfl
theorem nDigits_le {u k : Nat} (hk : 1 ≤ k) (h : u < 10 ^ k) : Lib.nDigits u ≤ k := by
  induction k generalizing u with
  | zero => omega
  | succ k ih =>
    by_cases h1 : u < 10
    · rw [Lib.nDigits_small h1]; omega
    · rw [Lib.nDigits_big h1]
      rcases Nat.eq_zero_or_pos k with rfl | hk'
      · simp at h; omega
      · have := ih hk' (u := u / 10) (by rw [Nat.pow_succ] at h; omega)
        omega
theorem dec_of_len {u : Nat} (h : (Lib.decDigits u).length ≤ 18) : u < 10 ^ 18 := by
  rw [Lib.decDigits_length] at h
  exact Nat.lt_of_lt_of_le (Lib.lt_pow_nDigits u) (Nat.pow_le_pow_right (by omega) h)
theorem len_of_dec {u : Nat} (h : u < 10 ^ 18) : (Lib.decDigits u).length ≤ 18 := by
  rw [Lib.decDigits_length]; exact nDigits_le (by omega) h
/-- What a numeral is made of. -/
theorem itoa_parts (n : Int) : ∃ u : Nat, n.natAbs = u ∧ ((0 ≤ n ∧ n = u ∧ Lib.itoa n = Lib.decDigits u) ∨ (n < 0 ∧ n = -(u : Int) ∧ 1 ≤ u ∧ Lib.itoa n = 45 :: Lib.decDigits u)) := by
  refine ⟨n.natAbs, rfl, ?_⟩
  by_cases h : 0 ≤ n
  · left
    obtain ⟨u, rfl⟩ := Int.eq_ofNat_of_zero_le h
    exact ⟨h, by simp, by rw [Lib.itoa_nonneg]; simp⟩
  · right
    obtain ⟨u, hu⟩ : ∃ u : Nat, n = -(u : Int) := ⟨n.natAbs, by omega⟩
    subst hu
    exact ⟨by omega, by simp, by omega, by rw [Lib.itoa_neg u (by omega)]; simp⟩
theorem numO_iff {l : List UInt8} {n : Int} : numO l = some n ↔ Lib.itoa n = l ∧ n.natAbs < 10 ^ 18 := by
  constructor
  · intro h
    rw [numO] at h
    split at h
    · rename_i hl
      split at h
      · rename_i u hu
        split at h
        · rename_i hi
          simp only [Option.some.injEq] at h
          refine ⟨by rw [← h]; exact hi, ?_⟩
          have h1 := Lib.decFrom_lt _ _ _ hu
          have hp : 10 ^ (bodyL l).length ≤ 10 ^ 18 := Nat.pow_le_pow_right (by omega) hl.2
          have hu' : u < 10 ^ 18 := by simpa using Nat.lt_of_lt_of_le h1 (by simpa using hp)
          rw [← h, sgn_abs]; exact hu'
        · cases h
      · cases h
    · cases h
  · rintro ⟨h, hn⟩
    obtain ⟨u, hu, hc⟩ := itoa_parts n
    rw [hu] at hn
    have hl := len_of_dec hn
    have hl1 : 1 ≤ (Lib.decDigits u).length := by rw [Lib.decDigits_length]; exact Lib.nDigits_pos u
    rcases hc with ⟨_, hnu, hi⟩ | ⟨hneg, hnu, _, hi⟩
    · obtain ⟨hb, hnb⟩ := body_dec u
      rw [← h, hi, numO, hb, if_pos ⟨hl1, hl⟩, decFrom_dec]
      have hs : sgn (negB (Lib.decDigits u)) u = n := by rw [hnb, hnu]; rfl
      simp only [hs]
      rw [if_pos hi]
    · have hb : bodyL (45 :: Lib.decDigits u) = Lib.decDigits u := by rw [bodyL, if_pos rfl]
      have hnb : negB (45 :: Lib.decDigits u) = true := by simp [negB]
      rw [← h, hi, numO, hb, if_pos ⟨hl1, hl⟩, decFrom_dec]
      have hs : sgn (negB (45 :: Lib.decDigits u)) u = n := by rw [hnb, hnu]; rfl
      simp only [hs]
      rw [if_pos hi]
theorem parse_itoa {n : Int} (hn : n.natAbs < 10 ^ 18) : Lib.parseIntB 64 (Lib.itoa n) = .ok n := by
  rw [Lib.parseIntB_64]
  obtain ⟨u, hu, hc⟩ := itoa_parts n
  rw [hu] at hn
  have hl := len_of_dec hn
  have hm : Lib.parseMag (Lib.decDigits u) = .ok u := by rw [Lib.parseMag_short _ hl, decNat_dec]; rfl
  have e18 : (10 : Nat) ^ 18 = 1000000000000000000 := by decide
  rcases hc with ⟨_, hnu, hi⟩ | ⟨hneg, hnu, _, hi⟩
  · rw [hi, hnu]
    have hd := dec_digits u
    cases e : Lib.decDigits u with
    | nil => exact absurd e (dec_ne u)
    | cons c r =>
      rw [e] at hm
      have hc := hd c (by rw [e]; simp)
      simp only [Lib.atoiAll]
      rw [if_neg (by omega), hm]
      simp only []
      rw [if_neg (by omega), if_neg (by omega), if_neg (by omega)]
  · rw [hi, hnu]
    have hu63 : ¬ 9223372036854775808 < u := by omega
    simp [Lib.atoiAll, hm, hu63]
theorem rdO_iff {l : List UInt8} {n : Int} : rdO l = some n ↔ Lib.itoa n = l ∧ n.natAbs < 10 ^ 18 := by
  constructor
  · intro h
    rw [rdO] at h
    split at h
    · cases h
    · rename_i hl
      split at h
      · rename_i v hv
        split at h
        · rename_i hi
          simp only [Option.some.injEq] at h
          subst h
          refine ⟨hi, ?_⟩
          obtain ⟨u, hu, hc⟩ := itoa_parts v
          rw [hu]
          refine dec_of_len ?_
          have hl2 : (bodyL l).length ≤ 18 := by omega
          rcases hc with ⟨_, _, hc⟩ | ⟨_, _, _, hc⟩
          · rw [← hi, hc, (body_dec u).1] at hl2; exact hl2
          · rw [← hi, hc, bodyL, if_pos rfl] at hl2; exact hl2
        · cases h
      · cases h
  · rintro ⟨h, hn⟩
    obtain ⟨u, hu, hc⟩ := itoa_parts n
    have hl := len_of_dec (u := u) (by rw [← hu]; exact hn)
    have hp := parse_itoa hn
    rw [h] at hp
    rw [rdO, if_neg, hp]
    · simp only []
      rw [if_pos h]
    · rcases hc with ⟨_, _, hc⟩ | ⟨_, _, _, hc⟩
      · rw [← h, hc, (body_dec u).1]; omega
      · rw [← h, hc, bodyL, if_pos rfl, List.length_cons]; omega
theorem rd_num (l : List UInt8) : rdO l = numO l := by
  cases h : numO l with
  | some n => exact rdO_iff.2 (numO_iff.1 h)
  | none =>
    cases h2 : rdO l with
    | none => rfl
    | some n => rw [numO_iff.2 (rdO_iff.1 h2)] at h; cases h
end Go.Proofs.YtoghgbbepjpelaaGreatDoor
