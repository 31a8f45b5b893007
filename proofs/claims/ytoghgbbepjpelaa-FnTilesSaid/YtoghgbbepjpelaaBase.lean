/- Words and plain lemmas that the walks of this seat share: a slice of integers that reads as a list, and how it is kept. No program is named here. -/
import Derived.WalkKit
import Derived.ProofKit
import Derived.Lib.Hide
import Derived.BigQuiet
import Derived.Deep.QuietTactic
import Derived.WalkLawsBesides
import Derived.WalkSpells
import Derived.Deep.OwnRows
import Derived.Deep.RegionWith
import Derived.Deep.RegionHeld3
import Derived.Laws.OwnMore
import Derived.Handy
namespace Go.Proofs.Ytoghgbbepjpelaa
open Go.RowKit

/-- The k-th number of a list; 0 behind its end. -/
def nth (xs : List Int) (k : Nat) : Int := xs.getD k 0
theorem nth_lt {xs : List Int} {k : Nat} (h : k < xs.length) : nth xs k = xs[k] := by simp [nth, List.getD_eq_getElem?_getD, h]
theorem nth_append_left {xs ys : List Int} {k : Nat} (h : k < xs.length) : nth (xs ++ ys) k = nth xs k := by
  simp [nth, List.getD_eq_getElem?_getD, List.getElem?_append_left h]
theorem take_snoc_nth {xs : List Int} {k : Nat} (h : k < xs.length) : xs.take (k + 1) = xs.take k ++ [nth xs k] := by
  rw [List.take_succ_eq_append_getElem h, nth_lt h]

/-- A slice of int64s that reads as a list in a world. -/
structure Ints (w : World) (A : Option Addr) (n : Nat) (xs : List Int) : Prop where
  len : xs.length = n
  bound : n ≤ 1048576
  cell : 0 < n → ∃ b off, A = some ⟨b, off, none⟩ ∧ b < w.heap.size ∧ ∀ j, j < n → w.cell? ⟨b, off + j, none⟩ = some (.int .i64 (nth xs j))

theorem Ints.keep {w w' : World} {A : Option Addr} {n : Nat} {xs : List Int} (h : Ints w A n xs) (hs : w.heap.size ≤ w'.heap.size)
    (hk : ∀ b o, b < w.heap.size → w'.cell? ⟨b, o, none⟩ = w.cell? ⟨b, o, none⟩) : Ints w' A n xs :=
  ⟨h.len, h.bound, fun hn => by
    obtain ⟨b, off, e, hb, hc⟩ := h.cell hn
    exact ⟨b, off, e, by omega, fun j hj => (hk _ _ hb).trans (hc j hj)⟩⟩
theorem Ints.below {w w' : World} {A : Option Addr} {n : Nat} {xs : List Int} (h : Ints w A n xs) (hb : Below w.heap.size w w') : Ints w' A n xs :=
  h.keep hb.size fun b o hlt => hb.cell (p := ⟨b, o, none⟩) hlt
theorem Ints.alloc {w : World} {A : Option Addr} {n : Nat} {xs : List Int} (h : Ints w A n xs) (o : Obj) : Ints (w.alloc o) A n xs :=
  h.below ((Below.refl _ _).alloc (Nat.le_refl _) _)
theorem Ints.nil (w : World) : Ints w none 0 [] := ⟨rfl, by omega, fun h => absurd h (by omega)⟩

theorem bcell {W w1 : World} (hb : Below W.heap.size W w1) : (∀ b o, b < W.heap.size → w1.cell? ⟨b, o, none⟩ = W.cell? ⟨b, o, none⟩) ∧ (∀ b o, b < W.heap.size → w1.frozen? ⟨b, o, none⟩ = W.frozen? ⟨b, o, none⟩) :=
  ⟨fun b o h => hb.cell (p := ⟨b, o, none⟩) h, fun b o h => hb.frozen (p := ⟨b, o, none⟩) h⟩
theorem below_drewN {B : Nat} {a w : World} (h : Below B a w) (n : Nat) : Below B a (w.drewN n) := ⟨h.os, h.tape, h.output, h.size, h.block⟩

/-- A contract that keeps the world, handed to a region that draws its order. -/
theorem q_same {P : Program} {f : FuncId} {args : Array Value} {w : World} {n : Nat} {v : Value}
    (h : Calls P f args (w.drewN n) fun e w' => e = .returned v ∧ w.drewN n = w') : Calls P f args (w.drewN n) fun e w'' => e = .returned v ∧ ∃ m, w'' = w.drewN m :=
  h.mono fun _ _ ⟨he, hm⟩ => ⟨he, n, hm.symm⟩
theorem q_drew {P : Program} {f : FuncId} {args : Array Value} {w : World} {n : Nat} {v : Value}
    (h : Calls P f args (w.drewN n) fun e w' => e = .returned v ∧ ∃ m, w' = (w.drewN n).drewN m) : Calls P f args (w.drewN n) fun e w'' => e = .returned v ∧ ∃ m, w'' = w.drewN m :=
  h.mono fun _ _ ⟨he, m, hm⟩ => ⟨he, n + m, by rw [hm, World.drewN_drewN]⟩
/-- A contract whose answer is a Bool, the Bool written out. -/
theorem asB {P : Program} {f : FuncId} {args : Array Value} {w : World} {R : World → Prop} {x y : Bool}
    (h : Calls P f args w fun e w' => e = .returned (.bool x) ∧ R w') (hx : x = y) : Calls P f args w fun e w' => e = .returned (.bool y) ∧ R w' := by
  subst hx; exact h
theorem Ints.drewN {w : World} {A : Option Addr} {n : Nat} {xs : List Int} (h : Ints w A n xs) (q : Nat) : Ints (w.drewN q) A n xs :=
  h.below (below_drewN (Below.refl _ _) q)
theorem ret_int {k : IntKind} {a b : Int} (h : a = b) : Ending.returned (.int k a) = .returned (.int k b) := by rw [h]
theorem ret_bool {a b : Bool} (h : a = b) : Ending.returned (.bool a) = .returned (.bool b) := by rw [h]

/-- Is a number in a range? -/
def inB (n lo hi : Int) : Bool := decide (lo ≤ n ∧ n ≤ hi)
theorem inB_true {n lo hi : Int} : inB n lo hi = true ↔ lo ≤ n ∧ n ≤ hi := by simp [inB]
theorem inB_false {n lo hi : Int} : inB n lo hi = false ↔ ¬ (lo ≤ n ∧ n ≤ hi) := by simp only [inB, decide_eq_false_iff_not]

/-- The sum, as int64s add. -/
def sumL (xs : List Int) : Int := xs.foldl (fun a b => wrap64 (a + b)) 0
theorem sumL_snoc {xs : List Int} {k : Nat} (h : k < xs.length) : sumL (xs.take (k+1)) = wrap64 (sumL (xs.take k) + nth xs k) := by
  rw [take_snoc_nth h]; simp [sumL]

/-- Are all numbers of a list in a range? -/
def allIn (xs : List Int) (lo hi : Int) : Bool := xs.all fun n => inB n lo hi
theorem allIn_take {xs : List Int} {k : Nat} {lo hi : Int} (h : k < xs.length) : allIn (xs.take (k+1)) lo hi = (allIn (xs.take k) lo hi && inB (nth xs k) lo hi) := by
  rw [take_snoc_nth h]; simp [allIn]
theorem allIn_false {xs : List Int} {k : Nat} {lo hi : Int} (h : k < xs.length) (hk : inB (nth xs k) lo hi = false) : allIn xs lo hi = false := by
  rw [allIn, List.all_eq_false]
  exact ⟨nth xs k, by rw [nth_lt h]; exact List.getElem_mem h, by rw [hk]; simp⟩
theorem allIn_nth {xs : List Int} {k : Nat} {lo hi : Int} (h : allIn xs lo hi = true) (hk : k < xs.length) : lo ≤ nth xs k ∧ nth xs k ≤ hi := by
  rw [allIn, List.all_eq_true] at h
  exact inB_true.1 (h _ (by rw [nth_lt hk]; exact List.getElem_mem hk))

theorem eq_of_nth {xs ys : List Int} (hl : xs.length = ys.length) (h : ∀ k, k < xs.length → nth xs k = nth ys k) : xs = ys :=
  List.ext_getElem hl fun k h1 h2 => by have := h k h1; rwa [nth_lt h1, nth_lt h2] at this
end Go.Proofs.Ytoghgbbepjpelaa
