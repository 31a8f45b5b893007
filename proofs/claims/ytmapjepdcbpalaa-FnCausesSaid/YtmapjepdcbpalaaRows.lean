/-
  No cell of these rows narrows 'for every input' (looked for: loops, veiled, ifaces, maps, wideKeys, modest, calm, conditions, laid).
  DERIVED. THE GIVEN ROWS OF THIS SEAT. 10 by the template 'for every input the law returns true; each argument reads behind the call as it read before'; 0 by the template 'total and deterministic' (their statements: YtmapjepdcbpalaaTotals.lean).
  GIVEN WITH THE SEED: the statements are not yours to turn. If you find one false, say at which input.
  Laid BY PROGRAM, IN A SANDBOX (cutbox-rows.mjs): the forced cells as the released guide's own fill.sh prints them over the translation a74089cd38d3bb5c… (all of the seat's roots in one cut). By AI agents, Wed Nov 11 2026. No macro, syntax, notation, axiom, sorry.
-/
import Derived.Test.YtmapjepdcbpalaaChecked
import GoSem.Claim
import GoSem.ClaimJoined
import GoSem.ClaimMapViews
import Derived.JoinedTies
import Derived.KernelRfl
namespace Go.Proofs.Ytmapjepdcbpalaa
/- THE CELL 'sum', in the pinned program and in every row, IS THE sha256 OF THE DUMP (.gsa) THAT YtmapjepdcbpalaaProg.lean LOADS. Nothing in Lean hashes anything: it is a label: what it is worth is what the hold of that sum in a sandbox is worth. -/
noncomputable def Try.pinned : Pinned := { name := "ytmapjepdcbpalaa", sum := "a74089cd38d3bb5cb6d1b1bcca3ad08b5de5dad91a8714079d2798a38a6a65f9", checked := Try.checked }
namespace Rows
def none {H : Type} : Left H := { results := [], args := [] }

/-- 'laws.FnExactSameBatches': WHATEVER THE INPUT: true; the input reads as it did. -/
def fnExactSameBatchesSpec : ChangeSpec := { name := "fnExactSameBatches", fn := fun _ => fun
  | [d1, d2] => { results := [.lit (.bool true)], args := [d1, d2] }
  | _ => none }
def fnExactSameBatchesRow : OpenClaim := { program := "ytmapjepdcbpalaa", sum := "a74089cd38d3bb5cb6d1b1bcca3ad08b5de5dad91a8714079d2798a38a6a65f9", func := "loop.example/g01042/laws.FnExactSameBatches", spec := "fnExactSameBatches", apart := false }
def FnExactSameBatchesSaid : Prop := fnExactSameBatchesRow.holds Try.pinned (OpenSpec.ofChange fnExactSameBatchesSpec)

/-- ITS FALSE NEIGHBOUR: 'it returns false'. Refute it at one input. -/
def fnExactSameBatchesWrong : ChangeSpec := { name := "fnExactSameBatches", fn := fun _ => fun
  | [d1, d2] => { results := [.lit (.bool false)], args := [d1, d2] }
  | _ => none }
def FnExactSameBatchesWrongFalsely : Prop := fnExactSameBatchesRow.holds Try.pinned (OpenSpec.ofChange fnExactSameBatchesWrong)

/-- 'laws.FnCauses': WHATEVER THE INPUT: true; the input reads as it did. -/
def fnCausesSpec : ChangeSpec := { name := "fnCauses", fn := fun _ => fun
  | [d1, d2] => { results := [.lit (.bool true)], args := [d1, d2] }
  | _ => none }
def fnCausesRow : OpenClaim := { program := "ytmapjepdcbpalaa", sum := "a74089cd38d3bb5cb6d1b1bcca3ad08b5de5dad91a8714079d2798a38a6a65f9", func := "loop.example/g01042/laws.FnCauses", spec := "fnCauses", unfollowed := true, recurses := true, apart := false }
def FnCausesSaid : Prop := fnCausesRow.holds Try.pinned (OpenSpec.ofChange fnCausesSpec)

/-- ITS FALSE NEIGHBOUR: 'it returns false'. Refute it at one input. -/
def fnCausesWrong : ChangeSpec := { name := "fnCauses", fn := fun _ => fun
  | [d1, d2] => { results := [.lit (.bool false)], args := [d1, d2] }
  | _ => none }
def FnCausesWrongFalsely : Prop := fnCausesRow.holds Try.pinned (OpenSpec.ofChange fnCausesWrong)

/-- 'laws.FnExactValidBatches': WHATEVER THE INPUT: true; the input reads as it did. -/
def fnExactValidBatchesSpec : ChangeSpec := { name := "fnExactValidBatches", fn := fun _ => fun
  | [d] => { results := [.lit (.bool true)], args := [d] }
  | _ => none }
def fnExactValidBatchesRow : OpenClaim := { program := "ytmapjepdcbpalaa", sum := "a74089cd38d3bb5cb6d1b1bcca3ad08b5de5dad91a8714079d2798a38a6a65f9", func := "loop.example/g01042/laws.FnExactValidBatches", spec := "fnExactValidBatches", unfollowed := true, recurses := true, apart := false }
def FnExactValidBatchesSaid : Prop := fnExactValidBatchesRow.holds Try.pinned (OpenSpec.ofChange fnExactValidBatchesSpec)

/-- ITS FALSE NEIGHBOUR: 'it returns false'. Refute it at one input. -/
def fnExactValidBatchesWrong : ChangeSpec := { name := "fnExactValidBatches", fn := fun _ => fun
  | [d] => { results := [.lit (.bool false)], args := [d] }
  | _ => none }
def FnExactValidBatchesWrongFalsely : Prop := fnExactValidBatchesRow.holds Try.pinned (OpenSpec.ofChange fnExactValidBatchesWrong)

/-- 'laws.FnExactBatchesWith': WHATEVER THE INPUT: true; the input reads as it did. -/
def fnExactBatchesWithSpec : ChangeSpec := { name := "fnExactBatchesWith", fn := fun _ => fun
  | [d1, d2] => { results := [.lit (.bool true)], args := [d1, d2] }
  | _ => none }
def fnExactBatchesWithRow : OpenClaim := { program := "ytmapjepdcbpalaa", sum := "a74089cd38d3bb5cb6d1b1bcca3ad08b5de5dad91a8714079d2798a38a6a65f9", func := "loop.example/g01042/laws.FnExactBatchesWith", spec := "fnExactBatchesWith", unfollowed := true, recurses := true, apart := false }
def FnExactBatchesWithSaid : Prop := fnExactBatchesWithRow.holds Try.pinned (OpenSpec.ofChange fnExactBatchesWithSpec)

/-- ITS FALSE NEIGHBOUR: 'it returns false'. Refute it at one input. -/
def fnExactBatchesWithWrong : ChangeSpec := { name := "fnExactBatchesWith", fn := fun _ => fun
  | [d1, d2] => { results := [.lit (.bool false)], args := [d1, d2] }
  | _ => none }
def FnExactBatchesWithWrongFalsely : Prop := fnExactBatchesWithRow.holds Try.pinned (OpenSpec.ofChange fnExactBatchesWithWrong)

/-- 'laws.FnExactAreExplained': WHATEVER THE INPUT: true; the input reads as it did. -/
def fnExactAreExplainedSpec : ChangeSpec := { name := "fnExactAreExplained", fn := fun _ => fun
  | [d1, d2] => { results := [.lit (.bool true)], args := [d1, d2] }
  | _ => none }
def fnExactAreExplainedRow : OpenClaim := { program := "ytmapjepdcbpalaa", sum := "a74089cd38d3bb5cb6d1b1bcca3ad08b5de5dad91a8714079d2798a38a6a65f9", func := "loop.example/g01042/laws.FnExactAreExplained", spec := "fnExactAreExplained", unfollowed := true, recurses := true, apart := false }
def FnExactAreExplainedSaid : Prop := fnExactAreExplainedRow.holds Try.pinned (OpenSpec.ofChange fnExactAreExplainedSpec)

/-- ITS FALSE NEIGHBOUR: 'it returns false'. Refute it at one input. -/
def fnExactAreExplainedWrong : ChangeSpec := { name := "fnExactAreExplained", fn := fun _ => fun
  | [d1, d2] => { results := [.lit (.bool false)], args := [d1, d2] }
  | _ => none }
def FnExactAreExplainedWrongFalsely : Prop := fnExactAreExplainedRow.holds Try.pinned (OpenSpec.ofChange fnExactAreExplainedWrong)

/-- 'laws.FnExactCausesIn': WHATEVER THE INPUT: true; the input reads as it did. -/
def fnExactCausesInSpec : ChangeSpec := { name := "fnExactCausesIn", fn := fun _ => fun
  | [d] => { results := [.lit (.bool true)], args := [d] }
  | _ => none }
def fnExactCausesInRow : OpenClaim := { program := "ytmapjepdcbpalaa", sum := "a74089cd38d3bb5cb6d1b1bcca3ad08b5de5dad91a8714079d2798a38a6a65f9", func := "loop.example/g01042/laws.FnExactCausesIn", spec := "fnExactCausesIn", unfollowed := true, recurses := true, apart := false }
def FnExactCausesInSaid : Prop := fnExactCausesInRow.holds Try.pinned (OpenSpec.ofChange fnExactCausesInSpec)

/-- ITS FALSE NEIGHBOUR: 'it returns false'. Refute it at one input. -/
def fnExactCausesInWrong : ChangeSpec := { name := "fnExactCausesIn", fn := fun _ => fun
  | [d] => { results := [.lit (.bool false)], args := [d] }
  | _ => none }
def FnExactCausesInWrongFalsely : Prop := fnExactCausesInRow.holds Try.pinned (OpenSpec.ofChange fnExactCausesInWrong)

/-- 'laws.FnExactBestTest': WHATEVER THE INPUT: true; the input reads as it did. -/
def fnExactBestTestSpec : ChangeSpec := { name := "fnExactBestTest", fn := fun _ => fun
  | [d1, d2] => { results := [.lit (.bool true)], args := [d1, d2] }
  | _ => none }
def fnExactBestTestRow : OpenClaim := { program := "ytmapjepdcbpalaa", sum := "a74089cd38d3bb5cb6d1b1bcca3ad08b5de5dad91a8714079d2798a38a6a65f9", func := "loop.example/g01042/laws.FnExactBestTest", spec := "fnExactBestTest", unfollowed := true, recurses := true, apart := false }
def FnExactBestTestSaid : Prop := fnExactBestTestRow.holds Try.pinned (OpenSpec.ofChange fnExactBestTestSpec)

/-- ITS FALSE NEIGHBOUR: 'it returns false'. Refute it at one input. -/
def fnExactBestTestWrong : ChangeSpec := { name := "fnExactBestTest", fn := fun _ => fun
  | [d1, d2] => { results := [.lit (.bool false)], args := [d1, d2] }
  | _ => none }
def FnExactBestTestWrongFalsely : Prop := fnExactBestTestRow.holds Try.pinned (OpenSpec.ofChange fnExactBestTestWrong)

/-- 'laws.FnExactCommonCauses': WHATEVER THE INPUT: true; the input reads as it did. -/
def fnExactCommonCausesSpec : ChangeSpec := { name := "fnExactCommonCauses", fn := fun _ => fun
  | [d] => { results := [.lit (.bool true)], args := [d] }
  | _ => none }
def fnExactCommonCausesRow : OpenClaim := { program := "ytmapjepdcbpalaa", sum := "a74089cd38d3bb5cb6d1b1bcca3ad08b5de5dad91a8714079d2798a38a6a65f9", func := "loop.example/g01042/laws.FnExactCommonCauses", spec := "fnExactCommonCauses", unfollowed := true, recurses := true, apart := false }
def FnExactCommonCausesSaid : Prop := fnExactCommonCausesRow.holds Try.pinned (OpenSpec.ofChange fnExactCommonCausesSpec)

/-- ITS FALSE NEIGHBOUR: 'it returns false'. Refute it at one input. -/
def fnExactCommonCausesWrong : ChangeSpec := { name := "fnExactCommonCauses", fn := fun _ => fun
  | [d] => { results := [.lit (.bool false)], args := [d] }
  | _ => none }
def FnExactCommonCausesWrongFalsely : Prop := fnExactCommonCausesRow.holds Try.pinned (OpenSpec.ofChange fnExactCommonCausesWrong)

/-- 'laws.FnExactPossibleCauses': WHATEVER THE INPUT: true; the input reads as it did. -/
def fnExactPossibleCausesSpec : ChangeSpec := { name := "fnExactPossibleCauses", fn := fun _ => fun
  | [d] => { results := [.lit (.bool true)], args := [d] }
  | _ => none }
def fnExactPossibleCausesRow : OpenClaim := { program := "ytmapjepdcbpalaa", sum := "a74089cd38d3bb5cb6d1b1bcca3ad08b5de5dad91a8714079d2798a38a6a65f9", func := "loop.example/g01042/laws.FnExactPossibleCauses", spec := "fnExactPossibleCauses", unfollowed := true, recurses := true, apart := false }
def FnExactPossibleCausesSaid : Prop := fnExactPossibleCausesRow.holds Try.pinned (OpenSpec.ofChange fnExactPossibleCausesSpec)

/-- ITS FALSE NEIGHBOUR: 'it returns false'. Refute it at one input. -/
def fnExactPossibleCausesWrong : ChangeSpec := { name := "fnExactPossibleCauses", fn := fun _ => fun
  | [d] => { results := [.lit (.bool false)], args := [d] }
  | _ => none }
def FnExactPossibleCausesWrongFalsely : Prop := fnExactPossibleCausesRow.holds Try.pinned (OpenSpec.ofChange fnExactPossibleCausesWrong)

/-- 'laws.FnExactFewestCauses': WHATEVER THE INPUT: true; the input reads as it did. -/
def fnExactFewestCausesSpec : ChangeSpec := { name := "fnExactFewestCauses", fn := fun _ => fun
  | [d] => { results := [.lit (.bool true)], args := [d] }
  | _ => none }
def fnExactFewestCausesRow : OpenClaim := { program := "ytmapjepdcbpalaa", sum := "a74089cd38d3bb5cb6d1b1bcca3ad08b5de5dad91a8714079d2798a38a6a65f9", func := "loop.example/g01042/laws.FnExactFewestCauses", spec := "fnExactFewestCauses", unfollowed := true, recurses := true, apart := false }
def FnExactFewestCausesSaid : Prop := fnExactFewestCausesRow.holds Try.pinned (OpenSpec.ofChange fnExactFewestCausesSpec)

/-- ITS FALSE NEIGHBOUR: 'it returns false'. Refute it at one input. -/
def fnExactFewestCausesWrong : ChangeSpec := { name := "fnExactFewestCauses", fn := fun _ => fun
  | [d] => { results := [.lit (.bool false)], args := [d] }
  | _ => none }
def FnExactFewestCausesWrongFalsely : Prop := fnExactFewestCausesRow.holds Try.pinned (OpenSpec.ofChange fnExactFewestCausesWrong)

/- THE SECOND FORM. 'bulk': how many values and letters a reading holds, each counted each time it is reached (what is shared counts as often as it is met; a slice's spare places count too). A statement '..UptoSaid' is the law's where the arguments, and the package variables that the reading takes, are together of bulk at most 1048576: NARROWER than '..Said'. Prove '..Said' where nothing that the law and all that it calls make is longer than what came in: it says more and counts as full. Else prove '..UptoSaid'. A law counts once. -/
mutual
def uptoBulk {H : Type} : DataW H → Nat
  | .lit (.string bytes) => bytes.length + 1
  | .lit _ => 1
  | .nil => 1
  | .ptr d => uptoBulk d + 1
  | .slice elems spare => uptoBulkAll elems + uptoBulkAll spare + 1
  | .agg parts => uptoBulkAll parts + 1
  | .iface _ d => uptoBulk d + 1
  | .map entries => uptoBulkEntries entries + 1
  | .held _ => 1
def uptoBulkAll {H : Type} : List (DataW H) → Nat
  | [] => 0
  | d :: r => uptoBulk d + uptoBulkAll r
def uptoBulkEntries {H : Type} : List (Lit × DataW H) → Nat
  | [] => 0
  | x :: r => uptoBulkEntry x + uptoBulkEntries r
def uptoBulkEntry {H : Type} : Lit × DataW H → Nat
  | (.string bytes, d) => bytes.length + uptoBulk d + 1
  | (_, d) => uptoBulk d + 1
 end
def uptoSmall : (H : Type) → List (DataW H) → Bool := fun _ ds => decide (uptoBulkAll ds ≤ 1048576)
def OpenSpec.upto (s : _root_.Go.ChangeSpec) : _root_.Go.OpenSpec := { _root_.Go.OpenSpec.ofChange s with cond := some uptoSmall }

/-- 'laws.FnExactSameBatches', WHERE WHAT IT READS IS OF BULK AT MOST 1048576: true; the input reads as it did. -/
def fnExactSameBatchesUptoRow : OpenClaim := { program := "ytmapjepdcbpalaa", sum := "a74089cd38d3bb5cb6d1b1bcca3ad08b5de5dad91a8714079d2798a38a6a65f9", func := "loop.example/g01042/laws.FnExactSameBatches", spec := "fnExactSameBatches", apart := false, narrowed := true }
def FnExactSameBatchesUptoSaid : Prop := fnExactSameBatchesUptoRow.holds Try.pinned (OpenSpec.upto fnExactSameBatchesSpec)

/-- 'laws.FnCauses', WHERE WHAT IT READS IS OF BULK AT MOST 1048576: true; the input reads as it did. -/
def fnCausesUptoRow : OpenClaim := { program := "ytmapjepdcbpalaa", sum := "a74089cd38d3bb5cb6d1b1bcca3ad08b5de5dad91a8714079d2798a38a6a65f9", func := "loop.example/g01042/laws.FnCauses", spec := "fnCauses", unfollowed := true, recurses := true, apart := false, narrowed := true }
def FnCausesUptoSaid : Prop := fnCausesUptoRow.holds Try.pinned (OpenSpec.upto fnCausesSpec)

/-- 'laws.FnExactValidBatches', WHERE WHAT IT READS IS OF BULK AT MOST 1048576: true; the input reads as it did. -/
def fnExactValidBatchesUptoRow : OpenClaim := { program := "ytmapjepdcbpalaa", sum := "a74089cd38d3bb5cb6d1b1bcca3ad08b5de5dad91a8714079d2798a38a6a65f9", func := "loop.example/g01042/laws.FnExactValidBatches", spec := "fnExactValidBatches", unfollowed := true, recurses := true, apart := false, narrowed := true }
def FnExactValidBatchesUptoSaid : Prop := fnExactValidBatchesUptoRow.holds Try.pinned (OpenSpec.upto fnExactValidBatchesSpec)

/-- 'laws.FnExactBatchesWith', WHERE WHAT IT READS IS OF BULK AT MOST 1048576: true; the input reads as it did. -/
def fnExactBatchesWithUptoRow : OpenClaim := { program := "ytmapjepdcbpalaa", sum := "a74089cd38d3bb5cb6d1b1bcca3ad08b5de5dad91a8714079d2798a38a6a65f9", func := "loop.example/g01042/laws.FnExactBatchesWith", spec := "fnExactBatchesWith", unfollowed := true, recurses := true, apart := false, narrowed := true }
def FnExactBatchesWithUptoSaid : Prop := fnExactBatchesWithUptoRow.holds Try.pinned (OpenSpec.upto fnExactBatchesWithSpec)

/-- 'laws.FnExactAreExplained', WHERE WHAT IT READS IS OF BULK AT MOST 1048576: true; the input reads as it did. -/
def fnExactAreExplainedUptoRow : OpenClaim := { program := "ytmapjepdcbpalaa", sum := "a74089cd38d3bb5cb6d1b1bcca3ad08b5de5dad91a8714079d2798a38a6a65f9", func := "loop.example/g01042/laws.FnExactAreExplained", spec := "fnExactAreExplained", unfollowed := true, recurses := true, apart := false, narrowed := true }
def FnExactAreExplainedUptoSaid : Prop := fnExactAreExplainedUptoRow.holds Try.pinned (OpenSpec.upto fnExactAreExplainedSpec)

/-- 'laws.FnExactCausesIn', WHERE WHAT IT READS IS OF BULK AT MOST 1048576: true; the input reads as it did. -/
def fnExactCausesInUptoRow : OpenClaim := { program := "ytmapjepdcbpalaa", sum := "a74089cd38d3bb5cb6d1b1bcca3ad08b5de5dad91a8714079d2798a38a6a65f9", func := "loop.example/g01042/laws.FnExactCausesIn", spec := "fnExactCausesIn", unfollowed := true, recurses := true, apart := false, narrowed := true }
def FnExactCausesInUptoSaid : Prop := fnExactCausesInUptoRow.holds Try.pinned (OpenSpec.upto fnExactCausesInSpec)

/-- 'laws.FnExactBestTest', WHERE WHAT IT READS IS OF BULK AT MOST 1048576: true; the input reads as it did. -/
def fnExactBestTestUptoRow : OpenClaim := { program := "ytmapjepdcbpalaa", sum := "a74089cd38d3bb5cb6d1b1bcca3ad08b5de5dad91a8714079d2798a38a6a65f9", func := "loop.example/g01042/laws.FnExactBestTest", spec := "fnExactBestTest", unfollowed := true, recurses := true, apart := false, narrowed := true }
def FnExactBestTestUptoSaid : Prop := fnExactBestTestUptoRow.holds Try.pinned (OpenSpec.upto fnExactBestTestSpec)

/-- 'laws.FnExactCommonCauses', WHERE WHAT IT READS IS OF BULK AT MOST 1048576: true; the input reads as it did. -/
def fnExactCommonCausesUptoRow : OpenClaim := { program := "ytmapjepdcbpalaa", sum := "a74089cd38d3bb5cb6d1b1bcca3ad08b5de5dad91a8714079d2798a38a6a65f9", func := "loop.example/g01042/laws.FnExactCommonCauses", spec := "fnExactCommonCauses", unfollowed := true, recurses := true, apart := false, narrowed := true }
def FnExactCommonCausesUptoSaid : Prop := fnExactCommonCausesUptoRow.holds Try.pinned (OpenSpec.upto fnExactCommonCausesSpec)

/-- 'laws.FnExactPossibleCauses', WHERE WHAT IT READS IS OF BULK AT MOST 1048576: true; the input reads as it did. -/
def fnExactPossibleCausesUptoRow : OpenClaim := { program := "ytmapjepdcbpalaa", sum := "a74089cd38d3bb5cb6d1b1bcca3ad08b5de5dad91a8714079d2798a38a6a65f9", func := "loop.example/g01042/laws.FnExactPossibleCauses", spec := "fnExactPossibleCauses", unfollowed := true, recurses := true, apart := false, narrowed := true }
def FnExactPossibleCausesUptoSaid : Prop := fnExactPossibleCausesUptoRow.holds Try.pinned (OpenSpec.upto fnExactPossibleCausesSpec)

/-- 'laws.FnExactFewestCauses', WHERE WHAT IT READS IS OF BULK AT MOST 1048576: true; the input reads as it did. -/
def fnExactFewestCausesUptoRow : OpenClaim := { program := "ytmapjepdcbpalaa", sum := "a74089cd38d3bb5cb6d1b1bcca3ad08b5de5dad91a8714079d2798a38a6a65f9", func := "loop.example/g01042/laws.FnExactFewestCauses", spec := "fnExactFewestCauses", unfollowed := true, recurses := true, apart := false, narrowed := true }
def FnExactFewestCausesUptoSaid : Prop := fnExactFewestCausesUptoRow.holds Try.pinned (OpenSpec.upto fnExactFewestCausesSpec)

end Rows
end Go.Proofs.Ytmapjepdcbpalaa
