/-
  No cell of these rows narrows 'for every input' (looked for: loops, veiled, ifaces, maps, wideKeys, modest, calm, conditions, laid).
  DERIVED. THE GIVEN ROWS OF THIS SEAT. 10 by the template 'for every input the law returns true; each argument reads behind the call as it read before'; 0 by the template 'total and deterministic' (their statements: YtnccooeaeomjfaaTotals.lean).
  GIVEN WITH THE SEED: the statements are not yours to turn. If you find one false, say at which input.
  Laid BY PROGRAM, IN A SANDBOX (cutbox-rows.mjs): the forced cells as the released guide's own fill.sh prints them over the translation a4e7e458c3fae57e… (all of the seat's roots in one cut). By AI agents, Wed Nov 11 2026. No macro, syntax, notation, axiom, sorry.
-/
import Derived.Test.YtnccooeaeomjfaaChecked
import GoSem.Claim
import GoSem.ClaimJoined
import GoSem.ClaimMapViews
import Derived.JoinedTies
import Derived.KernelRfl
namespace Go.Proofs.Ytnccooeaeomjfaa
/- THE CELL 'sum', in the pinned program and in every row, IS THE sha256 OF THE DUMP (.gsa) THAT YtnccooeaeomjfaaProg.lean LOADS. Nothing in Lean hashes anything: it is a label: what it is worth is what the hold of that sum in a sandbox is worth. -/
noncomputable def Try.pinned : Pinned := { name := "ytnccooeaeomjfaa", sum := "a4e7e458c3fae57ebd7031fa9f8b675008b0e2acca659d035c835e5f8ae9d3f9", checked := Try.checked }
namespace Rows
def none {H : Type} : Left H := { results := [], args := [] }

/-- 'laws.FnExactValidKiln': WHATEVER THE INPUT: true; the input reads as it did. -/
def fnExactValidKilnSpec : ChangeSpec := { name := "fnExactValidKiln", fn := fun _ => fun
  | [d] => { results := [.lit (.bool true)], args := [d] }
  | _ => none }
def fnExactValidKilnRow : OpenClaim := { program := "ytnccooeaeomjfaa", sum := "a4e7e458c3fae57ebd7031fa9f8b675008b0e2acca659d035c835e5f8ae9d3f9", func := "loop.example/g01042/laws.FnExactValidKiln", spec := "fnExactValidKiln", unfollowed := true, recurses := true, apart := false }
def FnExactValidKilnSaid : Prop := fnExactValidKilnRow.holds Try.pinned (OpenSpec.ofChange fnExactValidKilnSpec)

/-- ITS FALSE NEIGHBOUR: 'it returns false'. Refute it at one input. -/
def fnExactValidKilnWrong : ChangeSpec := { name := "fnExactValidKiln", fn := fun _ => fun
  | [d] => { results := [.lit (.bool false)], args := [d] }
  | _ => none }
def FnExactValidKilnWrongFalsely : Prop := fnExactValidKilnRow.holds Try.pinned (OpenSpec.ofChange fnExactValidKilnWrong)

/-- 'laws.FnExactStepsUntil': WHATEVER THE INPUT: true; the input reads as it did. -/
def fnExactStepsUntilSpec : ChangeSpec := { name := "fnExactStepsUntil", fn := fun _ => fun
  | [d1, d2, d3, d4] => { results := [.lit (.bool true)], args := [d1, d2, d3, d4] }
  | _ => none }
def fnExactStepsUntilRow : OpenClaim := { program := "ytnccooeaeomjfaa", sum := "a4e7e458c3fae57ebd7031fa9f8b675008b0e2acca659d035c835e5f8ae9d3f9", func := "loop.example/g01042/laws.FnExactStepsUntil", spec := "fnExactStepsUntil", unfollowed := true, recurses := true, apart := false }
def FnExactStepsUntilSaid : Prop := fnExactStepsUntilRow.holds Try.pinned (OpenSpec.ofChange fnExactStepsUntilSpec)

/-- ITS FALSE NEIGHBOUR: 'it returns false'. Refute it at one input. -/
def fnExactStepsUntilWrong : ChangeSpec := { name := "fnExactStepsUntil", fn := fun _ => fun
  | [d1, d2, d3, d4] => { results := [.lit (.bool false)], args := [d1, d2, d3, d4] }
  | _ => none }
def FnExactStepsUntilWrongFalsely : Prop := fnExactStepsUntilRow.holds Try.pinned (OpenSpec.ofChange fnExactStepsUntilWrong)

/-- 'laws.FnExactRingFor': WHATEVER THE INPUT: true; the input reads as it did. -/
def fnExactRingForSpec : ChangeSpec := { name := "fnExactRingFor", fn := fun _ => fun
  | [d1, d2] => { results := [.lit (.bool true)], args := [d1, d2] }
  | _ => none }
def fnExactRingForRow : OpenClaim := { program := "ytnccooeaeomjfaa", sum := "a4e7e458c3fae57ebd7031fa9f8b675008b0e2acca659d035c835e5f8ae9d3f9", func := "loop.example/g01042/laws.FnExactRingFor", spec := "fnExactRingFor", unfollowed := true, recurses := true, apart := false }
def FnExactRingForSaid : Prop := fnExactRingForRow.holds Try.pinned (OpenSpec.ofChange fnExactRingForSpec)

/-- ITS FALSE NEIGHBOUR: 'it returns false'. Refute it at one input. -/
def fnExactRingForWrong : ChangeSpec := { name := "fnExactRingFor", fn := fun _ => fun
  | [d1, d2] => { results := [.lit (.bool false)], args := [d1, d2] }
  | _ => none }
def FnExactRingForWrongFalsely : Prop := fnExactRingForRow.holds Try.pinned (OpenSpec.ofChange fnExactRingForWrong)

/-- 'laws.FnExactStageAt': WHATEVER THE INPUT: true; the input reads as it did. -/
def fnExactStageAtSpec : ChangeSpec := { name := "fnExactStageAt", fn := fun _ => fun
  | [d1, d2, d3] => { results := [.lit (.bool true)], args := [d1, d2, d3] }
  | _ => none }
def fnExactStageAtRow : OpenClaim := { program := "ytnccooeaeomjfaa", sum := "a4e7e458c3fae57ebd7031fa9f8b675008b0e2acca659d035c835e5f8ae9d3f9", func := "loop.example/g01042/laws.FnExactStageAt", spec := "fnExactStageAt", unfollowed := true, recurses := true, apart := false }
def FnExactStageAtSaid : Prop := fnExactStageAtRow.holds Try.pinned (OpenSpec.ofChange fnExactStageAtSpec)

/-- ITS FALSE NEIGHBOUR: 'it returns false'. Refute it at one input. -/
def fnExactStageAtWrong : ChangeSpec := { name := "fnExactStageAt", fn := fun _ => fun
  | [d1, d2, d3] => { results := [.lit (.bool false)], args := [d1, d2, d3] }
  | _ => none }
def FnExactStageAtWrongFalsely : Prop := fnExactStageAtRow.holds Try.pinned (OpenSpec.ofChange fnExactStageAtWrong)

/-- 'laws.FnExactStretchStage': WHATEVER THE INPUT: true; the input reads as it did. -/
def fnExactStretchStageSpec : ChangeSpec := { name := "fnExactStretchStage", fn := fun _ => fun
  | [d1, d2] => { results := [.lit (.bool true)], args := [d1, d2] }
  | _ => none }
def fnExactStretchStageRow : OpenClaim := { program := "ytnccooeaeomjfaa", sum := "a4e7e458c3fae57ebd7031fa9f8b675008b0e2acca659d035c835e5f8ae9d3f9", func := "loop.example/g01042/laws.FnExactStretchStage", spec := "fnExactStretchStage", unfollowed := true, recurses := true, apart := false }
def FnExactStretchStageSaid : Prop := fnExactStretchStageRow.holds Try.pinned (OpenSpec.ofChange fnExactStretchStageSpec)

/-- ITS FALSE NEIGHBOUR: 'it returns false'. Refute it at one input. -/
def fnExactStretchStageWrong : ChangeSpec := { name := "fnExactStretchStage", fn := fun _ => fun
  | [d1, d2] => { results := [.lit (.bool false)], args := [d1, d2] }
  | _ => none }
def FnExactStretchStageWrongFalsely : Prop := fnExactStretchStageRow.holds Try.pinned (OpenSpec.ofChange fnExactStretchStageWrong)

/-- 'laws.FnExactStepOfLine': WHATEVER THE INPUT: true; the input reads as it did. -/
def fnExactStepOfLineSpec : ChangeSpec := { name := "fnExactStepOfLine", fn := fun _ => fun
  | [d1, d2] => { results := [.lit (.bool true)], args := [d1, d2] }
  | _ => none }
def fnExactStepOfLineRow : OpenClaim := { program := "ytnccooeaeomjfaa", sum := "a4e7e458c3fae57ebd7031fa9f8b675008b0e2acca659d035c835e5f8ae9d3f9", func := "loop.example/g01042/laws.FnExactStepOfLine", spec := "fnExactStepOfLine", unfollowed := true, recurses := true, apart := false }
def FnExactStepOfLineSaid : Prop := fnExactStepOfLineRow.holds Try.pinned (OpenSpec.ofChange fnExactStepOfLineSpec)

/-- ITS FALSE NEIGHBOUR: 'it returns false'. Refute it at one input. -/
def fnExactStepOfLineWrong : ChangeSpec := { name := "fnExactStepOfLine", fn := fun _ => fun
  | [d1, d2] => { results := [.lit (.bool false)], args := [d1, d2] }
  | _ => none }
def FnExactStepOfLineWrongFalsely : Prop := fnExactStepOfLineRow.holds Try.pinned (OpenSpec.ofChange fnExactStepOfLineWrong)

/-- 'laws.FnExactFireGap': WHATEVER THE INPUT: true; the input reads as it did. -/
def fnExactFireGapSpec : ChangeSpec := { name := "fnExactFireGap", fn := fun _ => fun
  | [d] => { results := [.lit (.bool true)], args := [d] }
  | _ => none }
def fnExactFireGapRow : OpenClaim := { program := "ytnccooeaeomjfaa", sum := "a4e7e458c3fae57ebd7031fa9f8b675008b0e2acca659d035c835e5f8ae9d3f9", func := "loop.example/g01042/laws.FnExactFireGap", spec := "fnExactFireGap", unfollowed := true, recurses := true, apart := false }
def FnExactFireGapSaid : Prop := fnExactFireGapRow.holds Try.pinned (OpenSpec.ofChange fnExactFireGapSpec)

/-- ITS FALSE NEIGHBOUR: 'it returns false'. Refute it at one input. -/
def fnExactFireGapWrong : ChangeSpec := { name := "fnExactFireGap", fn := fun _ => fun
  | [d] => { results := [.lit (.bool false)], args := [d] }
  | _ => none }
def FnExactFireGapWrongFalsely : Prop := fnExactFireGapRow.holds Try.pinned (OpenSpec.ofChange fnExactFireGapWrong)

/-- 'laws.FnExactKilnLine': WHATEVER THE INPUT: true; the input reads as it did. -/
def fnExactKilnLineSpec : ChangeSpec := { name := "fnExactKilnLine", fn := fun _ => fun
  | [d1, d2] => { results := [.lit (.bool true)], args := [d1, d2] }
  | _ => none }
def fnExactKilnLineRow : OpenClaim := { program := "ytnccooeaeomjfaa", sum := "a4e7e458c3fae57ebd7031fa9f8b675008b0e2acca659d035c835e5f8ae9d3f9", func := "loop.example/g01042/laws.FnExactKilnLine", spec := "fnExactKilnLine", unfollowed := true, recurses := true, apart := false }
def FnExactKilnLineSaid : Prop := fnExactKilnLineRow.holds Try.pinned (OpenSpec.ofChange fnExactKilnLineSpec)

/-- ITS FALSE NEIGHBOUR: 'it returns false'. Refute it at one input. -/
def fnExactKilnLineWrong : ChangeSpec := { name := "fnExactKilnLine", fn := fun _ => fun
  | [d1, d2] => { results := [.lit (.bool false)], args := [d1, d2] }
  | _ => none }
def FnExactKilnLineWrongFalsely : Prop := fnExactKilnLineRow.holds Try.pinned (OpenSpec.ofChange fnExactKilnLineWrong)

/-- 'laws.FnExactChambersIn': WHATEVER THE INPUT: true; the input reads as it did. -/
def fnExactChambersInSpec : ChangeSpec := { name := "fnExactChambersIn", fn := fun _ => fun
  | [d1, d2, d3] => { results := [.lit (.bool true)], args := [d1, d2, d3] }
  | _ => none }
def fnExactChambersInRow : OpenClaim := { program := "ytnccooeaeomjfaa", sum := "a4e7e458c3fae57ebd7031fa9f8b675008b0e2acca659d035c835e5f8ae9d3f9", func := "loop.example/g01042/laws.FnExactChambersIn", spec := "fnExactChambersIn", unfollowed := true, recurses := true, apart := false }
def FnExactChambersInSaid : Prop := fnExactChambersInRow.holds Try.pinned (OpenSpec.ofChange fnExactChambersInSpec)

/-- ITS FALSE NEIGHBOUR: 'it returns false'. Refute it at one input. -/
def fnExactChambersInWrong : ChangeSpec := { name := "fnExactChambersIn", fn := fun _ => fun
  | [d1, d2, d3] => { results := [.lit (.bool false)], args := [d1, d2, d3] }
  | _ => none }
def FnExactChambersInWrongFalsely : Prop := fnExactChambersInRow.holds Try.pinned (OpenSpec.ofChange fnExactChambersInWrong)

/-- 'laws.FnFires': WHATEVER THE INPUT: true; the input reads as it did. -/
def fnFiresSpec : ChangeSpec := { name := "fnFires", fn := fun _ => fun
  | [d1, d2] => { results := [.lit (.bool true)], args := [d1, d2] }
  | _ => none }
def fnFiresRow : OpenClaim := { program := "ytnccooeaeomjfaa", sum := "a4e7e458c3fae57ebd7031fa9f8b675008b0e2acca659d035c835e5f8ae9d3f9", func := "loop.example/g01042/laws.FnFires", spec := "fnFires", unfollowed := true, recurses := true, apart := false }
def FnFiresSaid : Prop := fnFiresRow.holds Try.pinned (OpenSpec.ofChange fnFiresSpec)

/-- ITS FALSE NEIGHBOUR: 'it returns false'. Refute it at one input. -/
def fnFiresWrong : ChangeSpec := { name := "fnFires", fn := fun _ => fun
  | [d1, d2] => { results := [.lit (.bool false)], args := [d1, d2] }
  | _ => none }
def FnFiresWrongFalsely : Prop := fnFiresRow.holds Try.pinned (OpenSpec.ofChange fnFiresWrong)

/- THE SECOND FORM. 'bulk': how many values and letters a reading holds, each counted each time it is reached (what is shared counts as often as it is met; a slice's spare places count too). A statement '..UptoSaid' is the law's where the arguments, and the package variables that the reading takes, are together of bulk at most 1048576: NARROWER than '..Said'. Prove '..Said' where nothing that the law and all that it calls make is longer than what came in: it says more and counts as full. Else prove '..UptoSaid'. A law counts once. -/
mutual
def uptoBulk {H : Type} : DataW H → Nat
  | .lit (.string bytes) => bytes.length + 1
  | .lit _ => 1
  | .nil => 1
  | .ptr d => uptoBulk d + 1
  | .slice elems spare => uptoBulkAll elems + uptoBulkAll spare + 1
  | .agg parts => uptoBulkAll parts + 1
  | .iface _ d => uptoBulk d + 1
  | .map entries => uptoBulkEntries entries + 1
  | .held _ => 1
def uptoBulkAll {H : Type} : List (DataW H) → Nat
  | [] => 0
  | d :: r => uptoBulk d + uptoBulkAll r
def uptoBulkEntries {H : Type} : List (Lit × DataW H) → Nat
  | [] => 0
  | x :: r => uptoBulkEntry x + uptoBulkEntries r
def uptoBulkEntry {H : Type} : Lit × DataW H → Nat
  | (.string bytes, d) => bytes.length + uptoBulk d + 1
  | (_, d) => uptoBulk d + 1
 end
def uptoSmall : (H : Type) → List (DataW H) → Bool := fun _ ds => decide (uptoBulkAll ds ≤ 1048576)
def OpenSpec.upto (s : _root_.Go.ChangeSpec) : _root_.Go.OpenSpec := { _root_.Go.OpenSpec.ofChange s with cond := some uptoSmall }

/-- 'laws.FnExactValidKiln', WHERE WHAT IT READS IS OF BULK AT MOST 1048576: true; the input reads as it did. -/
def fnExactValidKilnUptoRow : OpenClaim := { program := "ytnccooeaeomjfaa", sum := "a4e7e458c3fae57ebd7031fa9f8b675008b0e2acca659d035c835e5f8ae9d3f9", func := "loop.example/g01042/laws.FnExactValidKiln", spec := "fnExactValidKiln", unfollowed := true, recurses := true, apart := false, narrowed := true }
def FnExactValidKilnUptoSaid : Prop := fnExactValidKilnUptoRow.holds Try.pinned (OpenSpec.upto fnExactValidKilnSpec)

/-- 'laws.FnExactStepsUntil', WHERE WHAT IT READS IS OF BULK AT MOST 1048576: true; the input reads as it did. -/
def fnExactStepsUntilUptoRow : OpenClaim := { program := "ytnccooeaeomjfaa", sum := "a4e7e458c3fae57ebd7031fa9f8b675008b0e2acca659d035c835e5f8ae9d3f9", func := "loop.example/g01042/laws.FnExactStepsUntil", spec := "fnExactStepsUntil", unfollowed := true, recurses := true, apart := false, narrowed := true }
def FnExactStepsUntilUptoSaid : Prop := fnExactStepsUntilUptoRow.holds Try.pinned (OpenSpec.upto fnExactStepsUntilSpec)

/-- 'laws.FnExactRingFor', WHERE WHAT IT READS IS OF BULK AT MOST 1048576: true; the input reads as it did. -/
def fnExactRingForUptoRow : OpenClaim := { program := "ytnccooeaeomjfaa", sum := "a4e7e458c3fae57ebd7031fa9f8b675008b0e2acca659d035c835e5f8ae9d3f9", func := "loop.example/g01042/laws.FnExactRingFor", spec := "fnExactRingFor", unfollowed := true, recurses := true, apart := false, narrowed := true }
def FnExactRingForUptoSaid : Prop := fnExactRingForUptoRow.holds Try.pinned (OpenSpec.upto fnExactRingForSpec)

/-- 'laws.FnExactStageAt', WHERE WHAT IT READS IS OF BULK AT MOST 1048576: true; the input reads as it did. -/
def fnExactStageAtUptoRow : OpenClaim := { program := "ytnccooeaeomjfaa", sum := "a4e7e458c3fae57ebd7031fa9f8b675008b0e2acca659d035c835e5f8ae9d3f9", func := "loop.example/g01042/laws.FnExactStageAt", spec := "fnExactStageAt", unfollowed := true, recurses := true, apart := false, narrowed := true }
def FnExactStageAtUptoSaid : Prop := fnExactStageAtUptoRow.holds Try.pinned (OpenSpec.upto fnExactStageAtSpec)

/-- 'laws.FnExactStretchStage', WHERE WHAT IT READS IS OF BULK AT MOST 1048576: true; the input reads as it did. -/
def fnExactStretchStageUptoRow : OpenClaim := { program := "ytnccooeaeomjfaa", sum := "a4e7e458c3fae57ebd7031fa9f8b675008b0e2acca659d035c835e5f8ae9d3f9", func := "loop.example/g01042/laws.FnExactStretchStage", spec := "fnExactStretchStage", unfollowed := true, recurses := true, apart := false, narrowed := true }
def FnExactStretchStageUptoSaid : Prop := fnExactStretchStageUptoRow.holds Try.pinned (OpenSpec.upto fnExactStretchStageSpec)

/-- 'laws.FnExactStepOfLine', WHERE WHAT IT READS IS OF BULK AT MOST 1048576: true; the input reads as it did. -/
def fnExactStepOfLineUptoRow : OpenClaim := { program := "ytnccooeaeomjfaa", sum := "a4e7e458c3fae57ebd7031fa9f8b675008b0e2acca659d035c835e5f8ae9d3f9", func := "loop.example/g01042/laws.FnExactStepOfLine", spec := "fnExactStepOfLine", unfollowed := true, recurses := true, apart := false, narrowed := true }
def FnExactStepOfLineUptoSaid : Prop := fnExactStepOfLineUptoRow.holds Try.pinned (OpenSpec.upto fnExactStepOfLineSpec)

/-- 'laws.FnExactFireGap', WHERE WHAT IT READS IS OF BULK AT MOST 1048576: true; the input reads as it did. -/
def fnExactFireGapUptoRow : OpenClaim := { program := "ytnccooeaeomjfaa", sum := "a4e7e458c3fae57ebd7031fa9f8b675008b0e2acca659d035c835e5f8ae9d3f9", func := "loop.example/g01042/laws.FnExactFireGap", spec := "fnExactFireGap", unfollowed := true, recurses := true, apart := false, narrowed := true }
def FnExactFireGapUptoSaid : Prop := fnExactFireGapUptoRow.holds Try.pinned (OpenSpec.upto fnExactFireGapSpec)

/-- 'laws.FnExactKilnLine', WHERE WHAT IT READS IS OF BULK AT MOST 1048576: true; the input reads as it did. -/
def fnExactKilnLineUptoRow : OpenClaim := { program := "ytnccooeaeomjfaa", sum := "a4e7e458c3fae57ebd7031fa9f8b675008b0e2acca659d035c835e5f8ae9d3f9", func := "loop.example/g01042/laws.FnExactKilnLine", spec := "fnExactKilnLine", unfollowed := true, recurses := true, apart := false, narrowed := true }
def FnExactKilnLineUptoSaid : Prop := fnExactKilnLineUptoRow.holds Try.pinned (OpenSpec.upto fnExactKilnLineSpec)

/-- 'laws.FnExactChambersIn', WHERE WHAT IT READS IS OF BULK AT MOST 1048576: true; the input reads as it did. -/
def fnExactChambersInUptoRow : OpenClaim := { program := "ytnccooeaeomjfaa", sum := "a4e7e458c3fae57ebd7031fa9f8b675008b0e2acca659d035c835e5f8ae9d3f9", func := "loop.example/g01042/laws.FnExactChambersIn", spec := "fnExactChambersIn", unfollowed := true, recurses := true, apart := false, narrowed := true }
def FnExactChambersInUptoSaid : Prop := fnExactChambersInUptoRow.holds Try.pinned (OpenSpec.upto fnExactChambersInSpec)

/-- 'laws.FnFires', WHERE WHAT IT READS IS OF BULK AT MOST 1048576: true; the input reads as it did. -/
def fnFiresUptoRow : OpenClaim := { program := "ytnccooeaeomjfaa", sum := "a4e7e458c3fae57ebd7031fa9f8b675008b0e2acca659d035c835e5f8ae9d3f9", func := "loop.example/g01042/laws.FnFires", spec := "fnFires", unfollowed := true, recurses := true, apart := false, narrowed := true }
def FnFiresUptoSaid : Prop := fnFiresUptoRow.holds Try.pinned (OpenSpec.upto fnFiresSpec)

end Rows
end Go.Proofs.Ytnccooeaeomjfaa
