/- The contract of among: one of some numbers. -/
import Derived.Test.YtoghgbbepjpelaaDoorSr
namespace Go.Proofs.YtoghgbbepjpelaaDoor
open Go.RowKit
set_option linter.unusedVariables false

theorem amDrew {B : Nat} {a w : World} (h : Below B a w) : Below B a w.drew := ⟨h.os, h.tape, h.output, h.size, h.block⟩
theorem among_any (p b n c : Nat) (m : Int) (w : World) (h : Src w p m) (hm : m ≤ 900000) (hn1 : 1 ≤ n) (hn : n ≤ 100) (hb : b < w.heap.size) (hne : b ≠ p) (hc : ∀ j, j < n → ∃ v : Int, w.cell? ⟨b, j, none⟩ = some (.int .i64 v)) :
    Calls Tryd.prog 45 #[.pointer (some ⟨p, 0, none⟩), .slice (some ⟨b, 0, none⟩) n c] w (DrawC (fun _ => True) p (m + 2) w) := by
  have HC := Lib.hid hc; clear hc
  go_enter Tryd.func45, Tryd.ntmps45
  go_wp2_with fail
  refine (pick_any p n m _ h (by omega)).mono ?_; rintro e w1 ⟨x, rfl, ⟨hx0, hx1⟩, hS1, hD1⟩
  obtain ⟨k, rfl⟩ := Int.eq_ofNat_of_zero_le hx0
  have hk : k < n := by omega
  obtain ⟨v, hv⟩ := HC.out k hk
  have hv1 : w1.cell? ⟨b, k, none⟩ = some (.int .i64 v) := (hD1.cell hb hne k).trans hv
  have HS1 := Lib.hid hS1
  clear hS1 hx1
  go_wp2_with fail
  go_ret
  exact ⟨v, rfl, trivial, HS1.out, hD1⟩
/-- One of some numbers, written out. -/
theorem among_lit (p : Nat) (m : Int) (W : World) (l : List Int) (t : TypeId) (h : Src W p m) (hm : m ≤ 900000) (h1 : 1 ≤ l.length) (h2 : l.length ≤ 100) :
    Calls Tryd.prog 45 #[.pointer (some ⟨p, 0, none⟩), .slice (some ⟨W.heap.size, 0, none⟩) l.length l.length] (W.alloc (.cells (l.map (Value.int .i64)).toArray t)) (DrawC (fun _ => True) p (m + 2) W) := by
  have hal : Below W.heap.size W (W.alloc (.cells (l.map (Value.int .i64)).toArray t)) := (Below.refl _ _).alloc (Nat.le_refl _) _
  have hp := h.lt
  refine (among_any p W.heap.size l.length l.length m _ (h.below hal) hm h1 h2 (by simp) (by omega) (fun j hj => ?_)).mono ?_
  · refine ⟨l[j], ?_⟩
    have hb := Go.Deep.blk_alloc_new W (.cells (l.map (Value.int .i64)).toArray t)
    rw [Go.cell_of_row _ _ _ _ _ _ hb]
    simp [hj]
  · rintro e w' ⟨x, he, hx, hS, hD⟩
    exact ⟨x, he, hx, hS, (Drew.of_below hal).trans hD⟩

/-- The same behind a draw. -/
theorem among_litD (p : Nat) (m : Int) (W : World) (l : List Int) (t : TypeId) (h : Src W p m) (hm : m ≤ 900000) (h1 : 1 ≤ l.length) (h2 : l.length ≤ 100) :
    Calls Tryd.prog 45 #[.pointer (some ⟨p, 0, none⟩), .slice (some ⟨W.heap.size, 0, none⟩) l.length l.length] (W.alloc (.cells (l.map (Value.int .i64)).toArray t)).drew (DrawC (fun _ => True) p (m + 2) W) := by
  have hal : Below W.heap.size W (W.alloc (.cells (l.map (Value.int .i64)).toArray t)).drew := amDrew ((Below.refl _ _).alloc (Nat.le_refl _) _)
  have hp := h.lt
  refine (among_any p W.heap.size l.length l.length m _ (h.below hal) hm h1 h2 (by simp) (by omega) (fun j hj => ?_)).mono ?_
  · refine ⟨l[j], ?_⟩
    have hb := Go.Deep.blk_alloc_new W (.cells (l.map (Value.int .i64)).toArray t)
    show (W.alloc (.cells (l.map (Value.int .i64)).toArray t)).cell? _ = _
    rw [Go.cell_of_row _ _ _ _ _ _ hb]
    simp [hj]
  · rintro e w' ⟨x, he, hx, hS, hD⟩
    exact ⟨x, he, hx, hS, (Drew.of_below hal).trans hD⟩

end Go.Proofs.YtoghgbbepjpelaaDoor
