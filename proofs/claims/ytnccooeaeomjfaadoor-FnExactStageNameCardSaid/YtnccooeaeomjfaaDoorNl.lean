/- The contract of spec.l17Names. -/
import Derived.Test.YtnccooeaeomjfaaDoorSm
namespace Go.Proofs.YtnccooeaeomjfaaDoor
open Go.RowKit
set_option linter.unusedVariables false

theorem l17Names_any (w : World) :
    Calls Tryd.prog 17 #[] w fun e w' => e = .returned (.slice (some ⟨w.heap.size, 0, none⟩) 6 6) ∧ w' = w.alloc (.cells #[.string ⟨#[101, 109, 112, 116, 121]⟩, .string ⟨#[115, 101, 116]⟩, .string ⟨#[104, 101, 97, 116]⟩, .string ⟨#[102, 105, 114, 101]⟩, .string ⟨#[99, 111, 111, 108]⟩, .string ⟨#[100, 114, 97, 119]⟩] 9) := by
  go_enter Tryd.func17, Tryd.ntmps17
  go_wp2
  go_ret
  exact ⟨rfl, rfl⟩
end Go.Proofs.YtnccooeaeomjfaaDoor
