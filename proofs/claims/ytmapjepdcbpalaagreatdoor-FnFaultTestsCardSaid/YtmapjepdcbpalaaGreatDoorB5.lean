/- slices.IndexFunc and slices.ContainsFunc at batches and at causes, whatever the function value. -/
import Derived.Test.YtmapjepdcbpalaaGreatDoorB2
import Derived.Shelf.Abstract
namespace Go.Proofs.YtmapjepdcbpalaaGreatDoor
open Go.RowKit
set_option linter.unusedVariables false

def Batch.enc (b : Batch) : Value := .agg #[.int .i64 b.Clay, .int .i64 b.Mould, .int .i64 b.Chamber, .bool b.Bad]
def Cause.enc (c : Cause) : Value := .agg #[.int .i64 c.Kind, .int .i64 c.Number]
/-- What is asked of a function value: it tells p at the elements of a list. -/
def PredB {α : Type} (g : Nat) (pb lb : Array Value) (enc : α → Value) (p : α → Bool) (xs : List α) (w : World) : Prop :=
  ∀ (W : World) (x : α), x ∈ xs → Below w.heap.size w W → Calls Tryz.prog g (pb ++ #[enc x] ++ lb) W fun e w' => e = .returned (.bool (p x)) ∧ Below W.heap.size W w'
theorem PredB.later {α : Type} {g : Nat} {pb lb : Array Value} {enc : α → Value} {p : α → Bool} {xs : List α} {w w' : World} (h : PredB g pb lb enc p xs w) (hb : Below w.heap.size w w') : PredB g pb lb enc p xs w' :=
  fun W x hx hW => h W x hx (bel_tr hb hW)
/-- The first place where p holds; -1 if there is none. -/
def FirstAt {α : Type} [Inhabited α] (p : α → Bool) (xs : List α) (r : Int) : Prop :=
  (r = -1 ∧ xs.any p = false) ∨ ∃ k : Nat, k < xs.length ∧ r = (k : Int) ∧ p (nt xs k) = true ∧ (xs.take k).any p = false
theorem FirstAt.any {α : Type} [Inhabited α] {p : α → Bool} {xs : List α} {r : Int} (h : FirstAt p xs r) : decide (0 ≤ r) = xs.any p := by
  rcases h with ⟨rfl, h⟩ | ⟨k, hk, rfl, h, _⟩
  · rw [h]; rfl
  · have h1 : xs.any p = true := by rw [List.any_eq_true]; exact ⟨nt xs k, nt_mem hk, h⟩
    rw [h1]; simp
def IsFirst {α : Type} [Inhabited α] (p : α → Bool) (xs : List α) (w : World) (e : Ending) (w' : World) : Prop := ∃ r : Int, e = .returned (.int .i64 r) ∧ FirstAt p xs r ∧ Below w.heap.size w w'


set_option maxHeartbeats 1000000 in
theorem idxFBatch_any (p : Batch → Bool) (g : Nat) (pb lb : Array Value) (eg : ∀ args w, (callFunc g args).run Tryz.prog w = .ok (.enter g args) w) (A : Option Addr) (n c : Nat) (xs : List Batch) (w : World) (hA : BatchS w A n xs) (hp : PredB g pb lb Batch.enc p xs w) :
    Calls Tryz.prog 57 #[.slice A n c, .func (.func g) pb lb] w (IsFirst p xs w) := by
  have hn := hA.bound
  have L := Lib.hid hA.len
  go_enter Tryz.func57, Tryz.ntmps57
  go_wp2
  go_loopw [8] (fun i wr => ∃ k : Nat, k ≤ n ∧ i = .int .i64 k ∧ (xs.take k).any p = false ∧ Below w.heap.size w wr) (fun i _ => n - (intOf i).toNat)
  case atStart => exact ⟨0, Nat.zero_le _, rfl, rfl, Below.refl _ _⟩
  case round =>
    obtain ⟨k, hk, rfl, hall, hbel⟩ := hrel
    have HA := Lib.hid hall; clear hall
    by_cases hlt : k < n
    · obtain ⟨b, off, rfl, hb, hc⟩ := (hA.below hbel).cell (by omega)
      have hlx : k < xs.length := by rw [hA.len]; exact hlt
      obtain ⟨hq0, hq1, hq2, hq3⟩ := hc k hlt
      have hcall := hp wr (nt xs k) (nt_mem hlx) hbel
      have hmem := hlx
      clear hc hp
      rcases Bool.eq_false_or_eq_true (p (nt xs k)) with f | f
      · have F := Lib.hid f
        rw [f] at hcall
        clear f
        go_wp2_with (go_at_fn g; refine hcall.mono ?_; rintro e w1 ⟨rfl, hb1⟩)
        go_ret
        exact ⟨_, rfl, .inr ⟨k, hlx, rfl, F.out, HA.out⟩, bel_tr hbel hb1⟩
      · have F := Lib.hid f
        rw [f] at hcall
        clear f
        go_wp2_with (go_at_fn g; refine hcall.mono ?_; rintro e w1 ⟨rfl, hb1⟩)
        go_roundw
        case rel => exact ⟨k + 1, by omega, by go_num, by rw [take_snoc_nt hlx, List.any_append, HA.out]; simpa using F.out, bel_tr hbel hb1⟩
        case measure => simp [intOf]; omega
    · go_wp2
      go_ret
      exact ⟨_, rfl, .inl ⟨rfl, by
        have := HA.out; rw [List.take_of_length_le (by rw [L.out]; omega)] at this; exact this⟩, hbel⟩
theorem conFBatch_any (p : Batch → Bool) (g : Nat) (pb lb : Array Value) (eg : ∀ args w, (callFunc g args).run Tryz.prog w = .ok (.enter g args) w) (A : Option Addr) (n c : Nat) (xs : List Batch) (w : World) (hA : BatchS w A n xs) (hp : PredB g pb lb Batch.enc p xs w) :
    Calls Tryz.prog 34 #[.slice A n c, .func (.func g) pb lb] w fun e w' => e = .returned (.bool (xs.any p)) ∧ Below w.heap.size w w' := by
  go_enter Tryz.func34, Tryz.ntmps34
  go_wp2_with fail
  refine (idxFBatch_any p g pb lb eg _ _ _ xs _ hA hp).mono ?_; rintro e w1 ⟨r, rfl, hr, hb1⟩
  go_wp2_with fail
  go_ret
  exact ⟨ret_bool hr.any, hb1⟩


set_option maxHeartbeats 1000000 in
theorem idxFCause_any (p : Cause → Bool) (g : Nat) (pb lb : Array Value) (eg : ∀ args w, (callFunc g args).run Tryz.prog w = .ok (.enter g args) w) (A : Option Addr) (n c : Nat) (xs : List Cause) (w : World) (hA : CauseS w A n xs) (hp : PredB g pb lb Cause.enc p xs w) :
    Calls Tryz.prog 72 #[.slice A n c, .func (.func g) pb lb] w (IsFirst p xs w) := by
  have hn := hA.bound
  have L := Lib.hid hA.len
  go_enter Tryz.func72, Tryz.ntmps72
  go_wp2
  go_loopw [8] (fun i wr => ∃ k : Nat, k ≤ n ∧ i = .int .i64 k ∧ (xs.take k).any p = false ∧ Below w.heap.size w wr) (fun i _ => n - (intOf i).toNat)
  case atStart => exact ⟨0, Nat.zero_le _, rfl, rfl, Below.refl _ _⟩
  case round =>
    obtain ⟨k, hk, rfl, hall, hbel⟩ := hrel
    have HA := Lib.hid hall; clear hall
    by_cases hlt : k < n
    · obtain ⟨b, off, rfl, hb, hc⟩ := (hA.below hbel).cell (by omega)
      have hlx : k < xs.length := by rw [hA.len]; exact hlt
      obtain ⟨hq0, hq1⟩ := hc k hlt
      have hcall := hp wr (nt xs k) (nt_mem hlx) hbel
      have hmem := hlx
      clear hc hp
      rcases Bool.eq_false_or_eq_true (p (nt xs k)) with f | f
      · have F := Lib.hid f
        rw [f] at hcall
        clear f
        go_wp2_with (go_at_fn g; refine hcall.mono ?_; rintro e w1 ⟨rfl, hb1⟩)
        go_ret
        exact ⟨_, rfl, .inr ⟨k, hlx, rfl, F.out, HA.out⟩, bel_tr hbel hb1⟩
      · have F := Lib.hid f
        rw [f] at hcall
        clear f
        go_wp2_with (go_at_fn g; refine hcall.mono ?_; rintro e w1 ⟨rfl, hb1⟩)
        go_roundw
        case rel => exact ⟨k + 1, by omega, by go_num, by rw [take_snoc_nt hlx, List.any_append, HA.out]; simpa using F.out, bel_tr hbel hb1⟩
        case measure => simp [intOf]; omega
    · go_wp2
      go_ret
      exact ⟨_, rfl, .inl ⟨rfl, by
        have := HA.out; rw [List.take_of_length_le (by rw [L.out]; omega)] at this; exact this⟩, hbel⟩

end Go.Proofs.YtmapjepdcbpalaaGreatDoor
