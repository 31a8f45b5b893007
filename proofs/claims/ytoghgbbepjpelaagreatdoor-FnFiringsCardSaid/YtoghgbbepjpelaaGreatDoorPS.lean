/- A text parted at a byte: plain laws. No function is walked here. -/
import Derived.Lib.Strings
import Derived.Lib.IndexMore
namespace Go.Proofs.YtoghgbbepjpelaaGreatDoor
set_option linter.unusedVariables false

/-- The parts of a text between bytes; cur: what has been read of the part at hand. -/
def splA (b : UInt8) (cur : List UInt8) : List UInt8 → List (List UInt8)
  | [] => [cur]
  | c :: r => if c = b then cur :: splA b [] r else splA b (cur ++ [c]) r
def splitL (b : UInt8) (l : List UInt8) : List (List UInt8) := splA b [] l
theorem splA_none (b : UInt8) : ∀ (l cur : List UInt8), b ∉ l → splA b cur l = [cur ++ l]
  | [], cur, _ => by simp [splA]
  | c :: r, cur, h => by
    rw [splA, if_neg (fun e => h (by simp [e])), splA_none b r _ (fun hm => h (List.mem_cons_of_mem _ hm)), List.append_assoc]; rfl
theorem splA_hit (b : UInt8) : ∀ (l cur r : List UInt8), b ∉ l → splA b cur (l ++ b :: r) = (cur ++ l) :: splA b [] r
  | [], cur, r, _ => by simp [splA]
  | c :: l, cur, r, h => by
    rw [List.cons_append, splA, if_neg (fun e => h (by simp [e])), splA_hit b l _ r (fun hm => h (List.mem_cons_of_mem _ hm)), List.append_assoc]; rfl
/-- Every text is without the byte, or parted at the first one. -/
theorem first_of (b : UInt8) : ∀ (l : List UInt8), b ∉ l ∨ ∃ p r, l = p ++ b :: r ∧ b ∉ p
  | [] => .inl (by simp)
  | c :: l => by
    by_cases h : c = b
    · exact .inr ⟨[], l, by rw [h]; rfl, by simp⟩
    · rcases first_of b l with h1 | ⟨p, r, h1, h2⟩
      · exact .inl (by simp [h1, Ne.symm h])
      · exact .inr ⟨c :: p, r, by rw [h1]; rfl, by simp [h2, Ne.symm h]⟩
theorem split_none {b : UInt8} {l : List UInt8} (h : b ∉ l) : splitL b l = [l] := by rw [splitL, splA_none b l [] h]; rfl
theorem split_hit {b : UInt8} {p r : List UInt8} (h : b ∉ p) : splitL b (p ++ b :: r) = p :: splitL b r := by rw [splitL, splA_hit b p [] r h]; rfl
theorem split_ne (b : UInt8) (l : List UInt8) : splitL b l ≠ [] := by
  rcases first_of b l with h | ⟨p, r, h, hp⟩
  · rw [split_none h]; simp
  · rw [h, split_hit hp]; simp
/-- Two parts: one byte of the kind. -/
theorem split_two {b : UInt8} {l p q : List UInt8} : splitL b l = [p, q] ↔ l = p ++ b :: q ∧ b ∉ p ∧ b ∉ q := by
  constructor
  · intro h
    rcases first_of b l with h1 | ⟨p1, r, h1, hp⟩
    · rw [split_none h1] at h; simp at h
    · rw [h1, split_hit hp] at h
      simp only [List.cons.injEq] at h
      obtain ⟨rfl, h2⟩ := h
      rcases first_of b r with h3 | ⟨p2, r2, h3, hp2⟩
      · rw [split_none h3] at h2
        simp only [List.cons.injEq, and_true] at h2
        subst h2
        exact ⟨h1, hp, h3⟩
      · rw [h3, split_hit hp2] at h2
        simp only [List.cons.injEq] at h2
        exact absurd h2.2 (split_ne b r2)
  · rintro ⟨rfl, hp, hq⟩
    rw [split_hit hp, split_none hq]
theorem split_len (b : UInt8) : ∀ (l cur : List UInt8), (splA b cur l).length ≤ l.length + 1
  | [], cur => by simp [splA]
  | c :: r, cur => by
    rw [splA]; split
    · rw [List.length_cons, List.length_cons]; have := split_len b r []; omega
    · rw [List.length_cons]; have := split_len b r (cur ++ [c]); omega
end Go.Proofs.YtoghgbbepjpelaaGreatDoor
