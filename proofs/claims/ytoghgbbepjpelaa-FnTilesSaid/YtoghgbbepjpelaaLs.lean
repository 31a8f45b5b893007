/- A list that a call has made, and a code. -/
import Derived.Test.YtoghgbbepjpelaaRows
import Derived.Test.YtoghgbbepjpelaaAp
import Derived.Test.YtoghgbbepjpelaaFz
namespace Go.Proofs.Ytoghgbbepjpelaa
open Go.RowKit
set_option linter.unusedVariables false

theorem info_i64 : (Try.prog.info? 2).map (fun i => (i.zero, i.size, i.bytes)) = some (some (.int .i64 0), 1, 8) := by kernel_rfl

/-- A slice that a call has made. -/
def Fresh (w w' : World) (A : Option Addr) : Prop := ∀ a, A = some a → w.heap.size ≤ a.block ∧ a.block < w'.heap.size
theorem Fresh.none_ (w w' : World) : Fresh w w' none := fun a h => by cases h
theorem Fresh.ne_lt {w w' : World} {A : Option Addr} (h : Fresh w w' A) {k : Nat} (hk : k < w.heap.size) : ∀ b off, A = some ⟨b, off, none⟩ → some b ≠ some k := fun b off e h' => by
  have h1 := (h _ e).1
  simp only [Option.some.injEq] at h'
  subst h'
  exact absurd h1 (by show ¬ w.heap.size ≤ b; omega)
theorem Fresh.ne_ge {w w' : World} {A : Option Addr} (h : Fresh w w' A) {k : Nat} (hk : w'.heap.size ≤ k) : ∀ b off, A = some ⟨b, off, none⟩ → some b ≠ some k := fun b off e h' => by
  have h1 := (h _ e).2
  simp only [Option.some.injEq] at h'
  subst h'
  exact absurd h1 (by show ¬ b < w'.heap.size; omega)
theorem Fresh.ne_row {w w' v v' : World} {A B : Option Addr} (h : Fresh w w' A) (k : Fresh v v' B) (hk : w'.heap.size ≤ v.heap.size) : ∀ b off, A = some ⟨b, off, none⟩ → some b ≠ B.map (·.block) := fun b off e h' => by
  have h1 := (h _ e).2
  cases B with
  | none => cases h'
  | some a =>
    have h2 := (k a rfl).1
    simp only [Option.map_some, Option.some.injEq] at h'
    have h1' : b < w'.heap.size := h1
    omega
theorem Fresh.row {w w' : World} {A : Option Addr} (h : Fresh w w' A) {m : Nat} (hm : m ≤ w.heap.size) : ∀ k, A.map (·.block) = some k → m ≤ k := fun k e => by
  cases A with
  | none => cases e
  | some a =>
    have h1 := (h a rfl).1
    simp only [Option.map_some, Option.some.injEq] at e
    omega
theorem Fresh.lt {w w' : World} {A : Option Addr} (h : Fresh w w' A) : ∀ b off, A = some ⟨b, off, none⟩ → b < w'.heap.size := fun b off e => (h _ e).2
theorem Fresh.mono {w w' v v' : World} {A : Option Addr} (h : Fresh w w' A) (h1 : v.heap.size ≤ w.heap.size) (h2 : w'.heap.size ≤ v'.heap.size) : Fresh v v' A := fun a e => by
  have := h a e
  omega

/-- A new list of numbers and its code. -/
def ListC (l : List Int) (code : Int) (w : World) (e : Ending) (w' : World) : Prop :=
  ∃ A n c, e = .returned (.tuple #[.slice A n c, .int .i64 code]) ∧ Ints w' A n l ∧ Fz w' A ∧ Fresh w w' A ∧ Below w.heap.size w w'
theorem ListC.none_ {code : Int} {w w' : World} (hb : Below w.heap.size w w') : ListC [] code w (.returned (.tuple #[.slice none 0 0, .int .i64 code])) w' :=
  ⟨none, 0, 0, rfl, Ints.nil _, Fz.none_ _, Fresh.none_ _ _, hb⟩
theorem ListC.own {l : List Int} {code : Int} {w w' : World} {base : Nat} {e : TypeId} {v : Value} (h : OwnS w' base e v (l.map (.int .i64))) (hl : l.length ≤ 1048576) (hbase : w.heap.size ≤ base) (hb : Below w.heap.size w w') :
    ListC l code w (.returned (.tuple #[v, .int .i64 code])) w' := by
  obtain ⟨g, cap, rfl, hg, hcap, hI⟩ := h.ints hl
  have hlt := h.lt
  refine ⟨_, _, _, rfl, hI, fun b off e o => ?_, fun a e => ?_, hb⟩
  · simp only [Option.some.injEq, Addr.mk.injEq, and_true] at e
    obtain ⟨rfl, rfl⟩ := e
    obtain ⟨g', cap', hv, _, ho⟩ := h
    simp only [List.length_map, Value.slice.injEq, Option.some.injEq, Addr.mk.injEq, and_true] at hv
    obtain ⟨rfl, _, rfl⟩ := hv
    exact ho.frozenAt o
  · simp only [Option.some.injEq] at e
    subst e
    exact ⟨by show _ ≤ g; omega, hlt.2⟩

/-- A row that a call has made. -/
theorem ListC.row {l : List Int} {code : Int} {w w' : World} {g n c : Nat} {t : TypeId} (h : w'.rowIs g t n (fun j => .int .i64 (nth l j))) (hl : l.length = n) (hn : n ≤ 1048576) (hg : w.heap.size ≤ g) (hb : Below w.heap.size w w') :
    ListC l code w (.returned (.tuple #[.slice (some ⟨g, 0, none⟩) n c, .int .i64 code])) w' :=
  ⟨_, _, _, rfl, ⟨hl, hn, fun _ => ⟨g, 0, rfl, h.lt, fun j hj => by rw [Nat.zero_add]; exact h.cell hj⟩⟩, Fz.mk_ h.frozen, fun a e => by
    simp only [Option.some.injEq] at e
    subst e
    exact ⟨hg, h.lt⟩, hb⟩
end Go.Proofs.Ytoghgbbepjpelaa
