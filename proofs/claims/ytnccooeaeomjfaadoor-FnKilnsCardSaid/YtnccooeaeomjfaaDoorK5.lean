/- The contracts of StepsUntil, the reference's and the program's. -/
import Derived.Test.YtnccooeaeomjfaaDoorK4
namespace Go.Proofs.YtnccooeaeomjfaaDoor
open Go.RowKit
set_option linter.unusedVariables false

/-- The phase in which a stage begins. -/
def firstF (xs : List Int) (t : Int) : Int := psum xs (if t = 0 then 5 else (t - 1).toNat)
def stepsF (ch : Int) (xs : List Int) (c s t : Int) : Int × Int :=
  if codeF ch xs c s t = 0 then (if firstF xs t = ch then (0, 3) else ((firstF xs t - (s - c)) % ch, 0)) else (0, codeF ch xs c s t)

theorem psum_mono {xs : List Int} (h : lensOk xs = true) : ∀ {k : Nat}, k ≤ 5 → psum xs k ≤ psum xs 5 := by
  intro k hk
  have hl := lensOk_len h
  have s0 := psum_succ (xs := xs) (k := 0) (by omega)
  have s1 := psum_succ (xs := xs) (k := 1) (by omega)
  have s2 := psum_succ (xs := xs) (k := 2) (by omega)
  have s3 := psum_succ (xs := xs) (k := 3) (by omega)
  have s4 := psum_succ (xs := xs) (k := 4) (by omega)
  have n0 := lensOk_nth h (k := 0) (by omega)
  have n1 := lensOk_nth h (k := 1) (by omega)
  have n2 := lensOk_nth h (k := 2) (by omega)
  have n3 := lensOk_nth h (k := 3) (by omega)
  have n4 := lensOk_nth h (k := 4) (by omega)
  simp only [Nat.zero_add, Nat.reduceAdd] at s0 s1 s2 s3 s4
  match k, hk with
  | 0, _ => omega
  | 1, _ => omega
  | 2, _ => omega
  | 3, _ => omega
  | 4, _ => omega
  | 5, _ => omega

theorem Ints.take {w : World} {A : Option Addr} {n k : Nat} {xs : List Int} (h : Ints w A n xs) (hk : k ≤ n) : Ints w A k (xs.take k) :=
  ⟨by rw [List.length_take, h.len]; omega, by have := h.bound; omega, fun hn => by
    obtain ⟨b, off, e, hb, hc⟩ := h.cell (by omega)
    refine ⟨b, off, e, hb, fun j hj => ?_⟩
    rw [hc j (by omega)]
    simp [nth, List.getD_eq_getElem?_getD, hj]⟩

end Go.Proofs.YtnccooeaeomjfaaDoor
