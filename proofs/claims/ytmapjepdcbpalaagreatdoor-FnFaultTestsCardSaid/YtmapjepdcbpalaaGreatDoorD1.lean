/- The contracts of the draws of batches and of causes: l18New, l18Batch, l18Draw, A2Batches, A2Causes. -/
import Derived.Test.YtmapjepdcbpalaaGreatDoorABatch
import Derived.Test.YtmapjepdcbpalaaGreatDoorSr
import Derived.Test.YtmapjepdcbpalaaGreatDoorOC
import Derived.Test.YtmapjepdcbpalaaGreatDoorCQ4
namespace Go.Proofs.YtmapjepdcbpalaaGreatDoor
open Go.RowKit
set_option linter.unusedVariables false

theorem OwnC.grown {w w' : World} {base p : Nat} {v : Value} {l : List Cause} (h : OwnC w base v l) (hb : w.grownBy w' (some p)) (hp : p < base) : OwnC w' base v l := by
  obtain ⟨g, cap, rfl, hg, ho⟩ := h
  exact ⟨g, cap, rfl, hg, ho.kept hb (.inr (by simp [Value.ownBlock]; omega))⟩

/-- A drawn cause. -/
def NewC (p : Nat) (m : Int) (w : World) (e : Ending) (w' : World) : Prop := ∃ c : Cause, e = .returned (.agg #[.int .i64 c.Kind, .int .i64 c.Number]) ∧ causeB c = true ∧ Src w' p m ∧ Drew p w w'
theorem new_any (p : Nat) (m : Int) (w : World) (h : Src w p m) (hm : m ≤ 100000) :
    Calls Tryz.prog 30 #[.pointer (some ⟨p, 0, none⟩)] w (NewC p (m + 4) w) := by
  have hp := h.lt
  go_enter Tryz.func30, Tryz.ntmps30
  go_wp2_with fail
  refine (pick_any p 3 m _ (h.below (by first | (go_grown; done) | (go_split_ands; assumption))) (by omega)).mono ?_; rintro e w1 ⟨x, rfl, ⟨hx0, hx1⟩, hS1, hD1⟩
  have HS1 := Lib.hid hS1
  have hx2 : x < 3 := by omega
  have hz1 := hD1.size; simp only [World.size_alloc] at hz1
  have a0 : w1.cell? ⟨w.heap.size, 0, none⟩ = some (.int .i64 0) := (hD1.cell (by simp) (by omega) 0).trans (by go_simp)
  have a1 : w1.cell? ⟨w.heap.size, 1, none⟩ = some (.int .i64 0) := (hD1.cell (by simp) (by omega) 1).trans (by go_simp)
  have f0 : w1.frozen? ⟨w.heap.size, 0, none⟩ = false := (hD1.frozen (by simp) (by omega) 0).trans (by go_simp)
  have f1 : w1.frozen? ⟨w.heap.size, 1, none⟩ = false := (hD1.frozen (by simp) (by omega) 1).trans (by go_simp)
  clear hS1 hx1
  go_wp2_with fail
  refine (pick_any p 4 (m + 2) _ (HS1.out.below (by first | (go_grown; done) | (go_split_ands; assumption))) (by omega)).mono ?_; rintro e w2 ⟨y, rfl, ⟨hy0, hy1⟩, hS2, hD2⟩
  have HS2 := Lib.hid hS2
  have hy2 : y < 4 := by omega
  have hz2 := hD2.size; simp only [World.size_alloc] at hz2
  have b0 : w2.cell? ⟨w.heap.size, 0, none⟩ = some (.int .i64 0) := (hD2.cell (by simp; omega) (by omega) 0).trans (alloc_at a0 (by omega) _)
  have b1 : w2.cell? ⟨w.heap.size, 1, none⟩ = some (.int .i64 0) := (hD2.cell (by simp; omega) (by omega) 1).trans (alloc_at a1 (by omega) _)
  have g0 : w2.frozen? ⟨w.heap.size, 0, none⟩ = false := (hD2.frozen (by simp; omega) (by omega) 0).trans (alloc_fz f0 (by omega) _)
  have g1 : w2.frozen? ⟨w.heap.size, 1, none⟩ = false := (hD2.frozen (by simp; omega) (by omega) 1).trans (alloc_fz f1 (by omega) _)
  have d0 : w2.cell? ⟨w1.heap.size, 0, none⟩ = some (.int .i64 (1 + x)) := (hD2.cell (by simp) (by omega) 0).trans (by go_simp)
  have d1 : w2.cell? ⟨w1.heap.size, 1, none⟩ = some (.int .i64 0) := (hD2.cell (by simp) (by omega) 1).trans (by go_simp)
  have e0 : w2.frozen? ⟨w1.heap.size, 0, none⟩ = false := (hD2.frozen (by simp) (by omega) 0).trans (by go_simp)
  have e1 : w2.frozen? ⟨w1.heap.size, 1, none⟩ = false := (hD2.frozen (by simp) (by omega) 1).trans (by go_simp)
  clear hS2 hy1 a0 a1 f0 f1
  have hne : w.heap.size ≠ w1.heap.size := by omega
  go_wp2_with fail
  have hQ : causeB ⟨1 + x, 1 + y⟩ = true := causeB_iff.2 ⟨⟨by show 1 ≤ 1 + x; omega, by show 1 + x ≤ 3; omega⟩, by show 1 ≤ 1 + y; omega, by show 1 + y ≤ 20; omega⟩
  refine bodyPost_ret (v := .agg #[.int .i64 (1 + x), .int .i64 (1 + y)]) (by simp [results, Tryz.results30, go_sem, b0, b1]) rfl ⟨⟨1 + x, 1 + y⟩, rfl, hQ, ?_, ?_⟩
  · exact (HS2.out.mono (by omega)).step (B := w.heap.size) (by go_grown) hp
  · exact ((Drew.of_below ((Below.refl _ _).alloc (Nat.le_refl _) _)).trans hD1).trans ((Drew.of_below ((Below.refl _ _).alloc (Nat.le_refl _) _)).trans hD2) |>.step (by go_grown)

/-- A drawn batch. -/
def NewB (p : Nat) (m : Int) (w : World) (e : Ending) (w' : World) : Prop := ∃ b : Batch, e = .returned (.agg #[.int .i64 b.Clay, .int .i64 b.Mould, .int .i64 b.Chamber, .bool b.Bad]) ∧ smallB b = true ∧ Src w' p m ∧ Drew p w w'
set_option maxHeartbeats 1000000 in
theorem newB_any (p : Nat) (m : Int) (w : World) (h : Src w p m) (hm : m ≤ 100000) :
    Calls Tryz.prog 31 #[.pointer (some ⟨p, 0, none⟩)] w (NewB p (m + 6) w) := by
  have hp := h.lt
  go_enter Tryz.func31, Tryz.ntmps31
  go_wp2_with fail
  refine (pick_any p 3 m _ (h.below (by first | (go_grown; done) | (go_split_ands; assumption))) (by omega)).mono ?_; rintro e w1 ⟨x, rfl, ⟨hx0, hx1⟩, hS1, hD1⟩
  have HS1 := Lib.hid hS1
  have hx2 : x < 3 := by omega
  have hz1 := hD1.size; simp only [World.size_alloc] at hz1
  have a0 : w1.cell? ⟨w.heap.size, 0, none⟩ = some (.int .i64 0) := (hD1.cell (by simp) (by omega) 0).trans (by go_simp)
  have f0 : w1.frozen? ⟨w.heap.size, 0, none⟩ = false := (hD1.frozen (by simp) (by omega) 0).trans (by go_simp)
  have a1 : w1.cell? ⟨w.heap.size, 1, none⟩ = some (.int .i64 0) := (hD1.cell (by simp) (by omega) 1).trans (by go_simp)
  have f1 : w1.frozen? ⟨w.heap.size, 1, none⟩ = false := (hD1.frozen (by simp) (by omega) 1).trans (by go_simp)
  have a2 : w1.cell? ⟨w.heap.size, 2, none⟩ = some (.int .i64 0) := (hD1.cell (by simp) (by omega) 2).trans (by go_simp)
  have f2 : w1.frozen? ⟨w.heap.size, 2, none⟩ = false := (hD1.frozen (by simp) (by omega) 2).trans (by go_simp)
  have a3 : w1.cell? ⟨w.heap.size, 3, none⟩ = some (.bool false) := (hD1.cell (by simp) (by omega) 3).trans (by go_simp)
  have f3 : w1.frozen? ⟨w.heap.size, 3, none⟩ = false := (hD1.frozen (by simp) (by omega) 3).trans (by go_simp)
  clear hS1 hx1
  go_wp2_with fail
  refine (pick_any p 4 (m + 2) _ (HS1.out.below (by first | (go_grown; done) | (go_split_ands; assumption))) (by omega)).mono ?_; rintro e w2 ⟨y, rfl, ⟨hy0, hy1⟩, hS2, hD2⟩
  have HS2 := Lib.hid hS2
  have hy2 : y < 4 := by omega
  have hz2 := hD2.size; simp only [World.size_alloc] at hz2
  have b0 : w2.cell? ⟨w.heap.size, 0, none⟩ = some (.int .i64 0) := (hD2.cell (by simp; omega) (by omega) 0).trans (alloc_at a0 (by omega) _)
  have g0 : w2.frozen? ⟨w.heap.size, 0, none⟩ = false := (hD2.frozen (by simp; omega) (by omega) 0).trans (alloc_fz f0 (by omega) _)
  have d0 : w2.cell? ⟨w1.heap.size, 0, none⟩ = some (.int .i64 (1 + x)) := (hD2.cell (by simp) (by omega) 0).trans (by go_simp)
  have e0 : w2.frozen? ⟨w1.heap.size, 0, none⟩ = false := (hD2.frozen (by simp) (by omega) 0).trans (by go_simp)
  have b1 : w2.cell? ⟨w.heap.size, 1, none⟩ = some (.int .i64 0) := (hD2.cell (by simp; omega) (by omega) 1).trans (alloc_at a1 (by omega) _)
  have g1 : w2.frozen? ⟨w.heap.size, 1, none⟩ = false := (hD2.frozen (by simp; omega) (by omega) 1).trans (alloc_fz f1 (by omega) _)
  have d1 : w2.cell? ⟨w1.heap.size, 1, none⟩ = some (.int .i64 0) := (hD2.cell (by simp) (by omega) 1).trans (by go_simp)
  have e1 : w2.frozen? ⟨w1.heap.size, 1, none⟩ = false := (hD2.frozen (by simp) (by omega) 1).trans (by go_simp)
  have b2 : w2.cell? ⟨w.heap.size, 2, none⟩ = some (.int .i64 0) := (hD2.cell (by simp; omega) (by omega) 2).trans (alloc_at a2 (by omega) _)
  have g2 : w2.frozen? ⟨w.heap.size, 2, none⟩ = false := (hD2.frozen (by simp; omega) (by omega) 2).trans (alloc_fz f2 (by omega) _)
  have d2 : w2.cell? ⟨w1.heap.size, 2, none⟩ = some (.int .i64 0) := (hD2.cell (by simp) (by omega) 2).trans (by go_simp)
  have e2 : w2.frozen? ⟨w1.heap.size, 2, none⟩ = false := (hD2.frozen (by simp) (by omega) 2).trans (by go_simp)
  have b3 : w2.cell? ⟨w.heap.size, 3, none⟩ = some (.bool false) := (hD2.cell (by simp; omega) (by omega) 3).trans (alloc_at a3 (by omega) _)
  have g3 : w2.frozen? ⟨w.heap.size, 3, none⟩ = false := (hD2.frozen (by simp; omega) (by omega) 3).trans (alloc_fz f3 (by omega) _)
  have d3 : w2.cell? ⟨w1.heap.size, 3, none⟩ = some (.bool false) := (hD2.cell (by simp) (by omega) 3).trans (by go_simp)
  have e3 : w2.frozen? ⟨w1.heap.size, 3, none⟩ = false := (hD2.frozen (by simp) (by omega) 3).trans (by go_simp)
  have hne : w.heap.size ≠ w1.heap.size := by omega
  clear hS2 hy1 a0 a1 a2 a3 f0 f1 f2 f3
  go_wp2_with fail
  refine (pick_any p 5 (m + 4) _ ((HS2.out.step (B := w.heap.size) (by first | (go_grown; done) | (go_split_ands; assumption)) hp).mono (by omega)) (by omega)).mono ?_; rintro e w3 ⟨z, rfl, ⟨hz0, hzz1⟩, hS3, hD3⟩
  have HS3 := Lib.hid hS3
  have hzz2 : z < 5 := by omega
  have hz3 := hD3.size; simp only [World.setCell, Array.size_modify] at hz3
  have k0 : w3.cell? ⟨w.heap.size, 0, none⟩ = some (.int .i64 0) := (hD3.cell (by simp [World.setCell]; omega) (by omega) 0).trans (by go_simp)
  have l0 : w3.frozen? ⟨w.heap.size, 0, none⟩ = false := (hD3.frozen (by simp [World.setCell]; omega) (by omega) 0).trans (by go_simp)
  have m0 : w3.cell? ⟨w1.heap.size, 0, none⟩ = some (.int .i64 (1 + x)) := (hD3.cell (by simp [World.setCell]; omega) (by omega) 0).trans (by go_simp)
  have n0 : w3.frozen? ⟨w1.heap.size, 0, none⟩ = false := (hD3.frozen (by simp [World.setCell]; omega) (by omega) 0).trans (by go_simp)
  have k1 : w3.cell? ⟨w.heap.size, 1, none⟩ = some (.int .i64 0) := (hD3.cell (by simp [World.setCell]; omega) (by omega) 1).trans (by go_simp)
  have l1 : w3.frozen? ⟨w.heap.size, 1, none⟩ = false := (hD3.frozen (by simp [World.setCell]; omega) (by omega) 1).trans (by go_simp)
  have m1 : w3.cell? ⟨w1.heap.size, 1, none⟩ = some (.int .i64 (1 + y)) := (hD3.cell (by simp [World.setCell]; omega) (by omega) 1).trans (by go_simp)
  have n1 : w3.frozen? ⟨w1.heap.size, 1, none⟩ = false := (hD3.frozen (by simp [World.setCell]; omega) (by omega) 1).trans (by go_simp)
  have k2 : w3.cell? ⟨w.heap.size, 2, none⟩ = some (.int .i64 0) := (hD3.cell (by simp [World.setCell]; omega) (by omega) 2).trans (by go_simp)
  have l2 : w3.frozen? ⟨w.heap.size, 2, none⟩ = false := (hD3.frozen (by simp [World.setCell]; omega) (by omega) 2).trans (by go_simp)
  have m2 : w3.cell? ⟨w1.heap.size, 2, none⟩ = some (.int .i64 0) := (hD3.cell (by simp [World.setCell]; omega) (by omega) 2).trans (by go_simp)
  have n2 : w3.frozen? ⟨w1.heap.size, 2, none⟩ = false := (hD3.frozen (by simp [World.setCell]; omega) (by omega) 2).trans (by go_simp)
  have k3 : w3.cell? ⟨w.heap.size, 3, none⟩ = some (.bool false) := (hD3.cell (by simp [World.setCell]; omega) (by omega) 3).trans (by go_simp)
  have l3 : w3.frozen? ⟨w.heap.size, 3, none⟩ = false := (hD3.frozen (by simp [World.setCell]; omega) (by omega) 3).trans (by go_simp)
  have m3 : w3.cell? ⟨w1.heap.size, 3, none⟩ = some (.bool false) := (hD3.cell (by simp [World.setCell]; omega) (by omega) 3).trans (by go_simp)
  have n3 : w3.frozen? ⟨w1.heap.size, 3, none⟩ = false := (hD3.frozen (by simp [World.setCell]; omega) (by omega) 3).trans (by go_simp)
  clear hS3 hzz1 b0 b1 b2 b3 g0 g1 g2 g3 d0 d1 d2 d3 e0 e1 e2 e3
  go_wp2_with fail
  have hQ : smallB ⟨1 + x, 1 + y, 1 + z, false⟩ = true := smallB_iff.2 ⟨⟨by show 1 ≤ 1 + x; omega, by show 1 + x ≤ 3; omega⟩, ⟨by show 1 ≤ 1 + y; omega, by show 1 + y ≤ 4; omega⟩, by show 1 ≤ 1 + z; omega, by show 1 + z ≤ 5; omega⟩
  refine bodyPost_ret (v := .agg #[.int .i64 (1 + x), .int .i64 (1 + y), .int .i64 (1 + z), .bool false]) (by simp [results, Tryz.results31, go_sem, k0, k1, k2, k3]) rfl ⟨⟨1 + x, 1 + y, 1 + z, false⟩, rfl, hQ, ?_, ?_⟩
  · exact (HS3.out.mono (by omega)).step (B := w.heap.size) (by go_grown) hp
  · have h1 : Drew p w w1 := (Drew.of_below ((Below.refl _ _).alloc (Nat.le_refl _) _)).trans hD1
    have h2 : Drew p w w2 := h1.trans ((Drew.of_below ((Below.refl _ _).alloc (Nat.le_refl _) _)).trans hD2)
    have h3 : Drew p w w3 := (h2.step (by go_grown)).trans hD3
    exact h3.step (by go_grown)
end Go.Proofs.YtmapjepdcbpalaaGreatDoor
