/- Records of type Fraction; slices of them that read as lists; the contracts of the law's own helpers over them: szFractionS, toFraction, toFractionS, eqFraction, eqFractionS. -/
import Derived.Test.YtnibggkjgpgljaaRows
import Derived.Test.YtnibggkjgpgljaaRc
namespace Go.Proofs.Ytnibggkjgpgljaa
open Go.RowKit
set_option linter.unusedVariables false

structure Fraction where
  Num : Int
  Den : Int
instance : Inhabited Fraction := ⟨⟨0, 0⟩⟩
/-- The record that begins at a cell. -/
def Fraction.lies (r : Fraction) (w : World) (b o : Nat) : Prop := w.cell? ⟨b, o, none⟩ = some (.int .i64 r.Num) ∧ w.cell? ⟨b, o + 1, none⟩ = some (.int .i64 r.Den)
theorem Fraction.lies.keep {r : Fraction} {w w' : World} {b o : Nat} (h : r.lies w b o) (hk : ∀ o, w'.cell? ⟨b, o, none⟩ = w.cell? ⟨b, o, none⟩) : r.lies w' b o := by
  obtain ⟨h0, h1⟩ := h
  exact ⟨(hk _).trans h0, (hk _).trans h1⟩
/-- A slice of records that reads as a list. -/
structure FractionS (w : World) (A : Option Addr) (n : Nat) (xs : List Fraction) : Prop where
  len : xs.length = n
  bound : n ≤ 1048576
  cell : 0 < n → ∃ b off, A = some ⟨b, off, none⟩ ∧ b < w.heap.size ∧ ∀ j, j < n → (nt xs j).lies w b (off + j * 2)
theorem FractionS.below {w w' : World} {A : Option Addr} {n : Nat} {xs : List Fraction} (h : FractionS w A n xs) (hb : Below w.heap.size w w') : FractionS w' A n xs :=
  ⟨h.len, h.bound, fun hn => by
    obtain ⟨b, off, e, hlt, hc⟩ := h.cell hn
    exact ⟨b, off, e, Nat.lt_of_lt_of_le hlt hb.size, fun j hj => (hc j hj).keep fun o => hb.cell (p := ⟨b, o, none⟩) hlt⟩⟩
theorem FractionS.alloc {w : World} {A : Option Addr} {n : Nat} {xs : List Fraction} (h : FractionS w A n xs) (o : Obj) : FractionS (w.alloc o) A n xs := h.below ((Below.refl _ _).alloc (Nat.le_refl _) _)
theorem FractionS.drewN {w : World} {A : Option Addr} {n : Nat} {xs : List Fraction} (h : FractionS w A n xs) (q : Nat) : FractionS (w.drewN q) A n xs := h.below (below_drewN (Below.refl _ _) q)
theorem FractionS.nil (w : World) : FractionS w none 0 [] := ⟨rfl, by omega, fun h => absurd h (by omega)⟩
/-- The same that came in: only the length's own bound. -/
structure FractionRaw (w : World) (A : Option Addr) (n : Nat) (xs : List Fraction) : Prop where
  len : xs.length = n
  bound : n ≤ 9223372036854775807
  cell : 0 < n → ∃ b off, A = some ⟨b, off, none⟩ ∧ b < w.heap.size ∧ ∀ j, j < n → (nt xs j).lies w b (off + j * 2)
theorem FractionRaw.recs {w : World} {A : Option Addr} {n : Nat} {xs : List Fraction} (h : FractionRaw w A n xs) (hn : n ≤ 1048576) : FractionS w A n xs := ⟨h.len, hn, h.cell⟩
theorem FractionRaw.below {w w' : World} {A : Option Addr} {n : Nat} {xs : List Fraction} (h : FractionRaw w A n xs) (hb : Below w.heap.size w w') : FractionRaw w' A n xs :=
  ⟨h.len, h.bound, fun hn => by
    obtain ⟨b, off, e, hlt, hc⟩ := h.cell hn
    exact ⟨b, off, e, Nat.lt_of_lt_of_le hlt hb.size, fun j hj => (hc j hj).keep fun o => hb.cell (p := ⟨b, o, none⟩) hlt⟩⟩

theorem toFraction_any (r : Fraction) (w : World) :
    Calls Try.prog 26 #[.agg #[.int .i64 r.Num, .int .i64 r.Den]] w fun e w' => e = .returned (.agg #[.int .i64 r.Num, .int .i64 r.Den]) ∧ Below w.heap.size w w' := by
  go_enter Try.func26, Try.ntmps26
  go_wp2
  refine bodyPost_ret (v := .agg #[.int .i64 r.Num, .int .i64 r.Den]) (by simp [results, Try.results26, go_sem]) rfl ⟨rfl, ?_⟩
  go_grown
theorem eqFraction_any (r : Fraction) (w : World) :
    Calls Try.prog 24 #[.agg #[.int .i64 r.Num, .int .i64 r.Den], .agg #[.int .i64 r.Num, .int .i64 r.Den]] w fun e w' => e = .returned (.bool true) ∧ Below w.heap.size w w' := by
  have hNum : (r.Num != r.Num) = false := by simp
  have hDen : (r.Den != r.Den) = false := by simp
  go_enter Try.func24, Try.ntmps24
  go_wp2
  go_ret
  exact ⟨rfl, by go_grown⟩

def Fraction.at (r : Fraction) (i : Nat) : Value := if i = 0 then .int .i64 r.Num else .int .i64 r.Den
/-- The cells of a row of records of which the first k are laid. -/
def Fraction.cells (xs : List Fraction) (k : Nat) (c : Nat) : Value := if c / 2 < k then (nt xs (c / 2)).at (c % 2) else (default : Fraction).at (c % 2)
end Go.Proofs.Ytnibggkjgpgljaa
