/- The contracts of the functions over batches: l18Ok, ValidBatches. -/
import Derived.Test.YtmapjepdcbpalaaDoorRBatch
import Derived.Test.YtmapjepdcbpalaaDoorSm
import Derived.Test.YtmapjepdcbpalaaDoorTw
namespace Go.Proofs.YtmapjepdcbpalaaDoor
open Go.RowKit
set_option linter.unusedVariables false

theorem all_succ {α : Type} [Inhabited α] {xs : List α} {p : α → Bool} {k : Nat} (h : k < xs.length) : (xs.take (k + 1)).all p = ((xs.take k).all p && p (nt xs k)) := by
  rw [take_snoc_nt h]; simp
theorem all_bad {α : Type} [Inhabited α] {xs : List α} {p : α → Bool} {k : Nat} (h : k < xs.length) (hk : p (nt xs k) = false) : xs.all p = false := by
  rw [List.all_eq_false]
  exact ⟨nt xs k, nt_mem h, by rw [hk]; simp⟩

def Batch.okB (r : Batch) : Bool := inB r.Clay 1 20 && (inB r.Mould 1 20 && inB r.Chamber 1 20)
def batchesOk (xs : List Batch) : Bool := xs.all Batch.okB && decide (xs.length ≤ 40)

theorem l18Number_any (n : Int) (w : World) :
    Calls Tryd.prog 22 #[.int .i64 n] w fun e w' => e = .returned (.bool (inB n 1 20)) ∧ w = w' := by
  go_enter Tryd.func22, Tryd.ntmps22
  go_wp2_with fail
  refine (in_any _ _ _ _).mono ?_; rintro e w' ⟨rfl, rfl⟩
  go_wp2_with fail
  go_ret
  exact ⟨rfl, rfl⟩

def IsIdxB (P : Int → Prop) (w : World) (e : Ending) (w' : World) : Prop := ∃ r : Int, e = .returned (.int .i64 r) ∧ P r ∧ Below w.heap.size w w'
theorem any_not {xs : List Batch} : xs.any (fun r => !r.okB) = !xs.all Batch.okB := by
  induction xs with
  | nil => rfl
  | cons a l ih => simp only [List.any_cons, List.all_cons, ih]; simp
end Go.Proofs.YtmapjepdcbpalaaDoor
