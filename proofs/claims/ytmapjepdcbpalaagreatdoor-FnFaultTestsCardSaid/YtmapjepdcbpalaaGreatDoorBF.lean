/- The contracts of l18Set and of the reference's FewestCauses. -/
import Derived.Test.YtmapjepdcbpalaaGreatDoorBD
import Derived.Test.YtmapjepdcbpalaaGreatDoorCQ3
import Derived.Test.YtmapjepdcbpalaaGreatDoorB7
namespace Go.Proofs.YtmapjepdcbpalaaGreatDoor
open Go.RowKit
set_option linter.unusedVariables false

theorem open_ex (xs : List Batch) (s : List Cause) : xs.any (openB s) = !exB (badsOf xs) s := by
  rw [Bool.eq_iff_iff, Bool.not_eq_true', exB, List.all_eq_false, List.any_eq_true]
  constructor
  · rintro ⟨b, hb, h⟩
    rw [openB, Bool.and_eq_true, Bool.not_eq_true'] at h
    exact ⟨b, List.mem_filter.2 ⟨hb, h.1⟩, by rw [h.2]; simp⟩
  · rintro ⟨b, hb, h⟩
    obtain ⟨h1, h2⟩ := List.mem_filter.1 hb
    exact ⟨b, h1, by rw [openB, h2]; simpa using h⟩
theorem posL_rises (xs : List Batch) : Rises (posL xs) := ((allC_rises 60).filter _).filter _

/-- The last of a list of causes, from place j on and ahead of place q. -/
theorem mid_step {p : List Cause} {j q : Nat} (h : j ≤ q) (hq : q < p.length) : (p.take (q + 1)).drop j = (p.take q).drop j ++ [nt p q] := by
  rw [take_snoc_nt hq, List.drop_append_of_le_length (by rw [List.length_take]; omega)]
theorem mid_self (p : List Cause) (j : Nat) : (p.take j).drop j = [] := by
  rw [List.drop_eq_nil_iff, List.length_take]; omega

theorem drop_sub {p : List Cause} {i j : Nat} (h : i ≤ j) : (p.drop j).Sublist (p.drop i) := by
  obtain ⟨d, rfl⟩ : ∃ d, j = i + d := ⟨j - i, by omega⟩
  rw [← List.drop_drop]; exact List.drop_sublist _ _
def SetR (bs : List Batch) (p begun : List Cause) (i m base : Nat) (w : World) (e : Ending) (w' : World) : Prop :=
  ∃ A n c b, e = .returned (.tuple #[.slice A n c, .bool b]) ∧ Below w.heap.size w w' ∧
    (b = true → ∃ s g, Sought bs p begun i m (some s) ∧ A = some ⟨g, 0, none⟩ ∧ s.length = n ∧ RowFCause w' g n (nt s) ∧ base ≤ g) ∧ (b = false → Sought bs p begun i m none)
theorem SetR.chain {bs : List Batch} {p begun begun' : List Cause} {i i' m m' base : Nat} {w w0 : World} {e : Ending} {w' : World} (h : SetR bs p begun i m base w0 e w') (hb : Below w.heap.size w w') (hs : ∀ s, Sought bs p begun i m (some s) → Sought bs p begun' i' m' (some s)) (hn : Sought bs p begun i m none → Sought bs p begun' i' m' none) : SetR bs p begun' i' m' base w e w' := by
  obtain ⟨A, n, c, b, he, _, h1, h2⟩ := h
  exact ⟨A, n, c, b, he, hb, fun hb => by
    obtain ⟨s, g, k1, k2, k3, k4, k5⟩ := h1 hb
    exact ⟨s, g, hs s k1, k2, k3, k4, k5⟩, fun hb => hn (h2 hb)⟩
theorem SetR.none_ {bs : List Batch} {p begun : List Cause} {i m base : Nat} {w w' : World} (h : Sought bs p begun i m none) (hb : Below w.heap.size w w') : SetR bs p begun i m base w (.returned (.tuple #[.slice none 0 0, .bool false])) w' :=
  ⟨_, _, _, _, rfl, hb, (fun h => by cases h), fun _ => h⟩
theorem SetR.some_ {bs : List Batch} {p begun s : List Cause} {i m base g n c : Nat} {w w' : World} (h : Sought bs p begun i m (some s)) (hl : s.length = n) (hR : RowFCause w' g n (nt s)) (hg : base ≤ g) (hb : Below w.heap.size w w') : SetR bs p begun i m base w (.returned (.tuple #[.slice (some ⟨g, 0, none⟩) n c, .bool true])) w' :=
  ⟨_, _, _, _, rfl, hb, fun _ => ⟨s, g, h, rfl, hl, hR, hg⟩, (fun h => by cases h)⟩
/-- The fewest causes that explain all bad batches, the first of such sets. -/
noncomputable def bestL (bs : List Batch) (p : List Cause) : List Cause := @Classical.epsilon _ ⟨[]⟩ (Best bs p)
theorem bestL_eq {bs : List Batch} {p s : List Cause} (h : Best bs p s) : bestL bs p = s := (@Classical.epsilon_spec _ (Best bs p) ⟨s, h⟩).uniq h
def fcC (xs : List Batch) : Int := if codeB xs = 0 then (if (posL xs).length ≤ 16 then (if exB (badsOf xs) (posL xs) = true then 0 else 9) else 5) else codeB xs
noncomputable def fcL (xs : List Batch) : List Cause := if fcC xs = 0 then bestL (badsOf xs) (posL xs) else []
theorem fcL_bad {xs : List Batch} {c : Int} (h : fcC xs = c) (hc : c ≠ 0) : fcL xs = [] := by rw [fcL, h, if_neg hc]
theorem bads_ne {xs : List Batch} (h : xs.any (·.Bad) = true) : exB (badsOf xs) [] = false := by
  obtain ⟨b, hb, hh⟩ := List.any_eq_true.1 h
  rw [exB, List.all_eq_false]
  exact ⟨b, List.mem_filter.2 ⟨hb, hh⟩, by simp⟩
end Go.Proofs.YtmapjepdcbpalaaGreatDoor
