/-
  No cell of these rows narrows 'for every input' (looked for: loops, veiled, ifaces, maps, wideKeys, modest, calm, conditions, laid).
  DERIVED. THE GIVEN ROWS OF THIS SEAT. 10 by the template 'for every input the law returns true; each argument reads behind the call as it read before'; 0 by the template 'total and deterministic' (their statements: YtnibggkjgpgljaaTotals.lean).
  GIVEN WITH THE SEED: the statements are not yours to turn. If you find one false, say at which input.
  Laid BY PROGRAM, IN A SANDBOX (cutbox-rows.mjs): the forced cells as the released guide's own fill.sh prints them over the translation 635e7cfadb660333… (all of the seat's roots in one cut). By AI agents, Wed Nov 11 2026. No macro, syntax, notation, axiom, sorry.
-/
import Derived.Test.YtnibggkjgpgljaaChecked
import GoSem.Claim
import GoSem.ClaimJoined
import GoSem.ClaimMapViews
import Derived.JoinedTies
import Derived.KernelRfl
namespace Go.Proofs.Ytnibggkjgpgljaa
/- THE CELL 'sum', in the pinned program and in every row, IS THE sha256 OF THE DUMP (.gsa) THAT YtnibggkjgpgljaaProg.lean LOADS. Nothing in Lean hashes anything: it is a label: what it is worth is what the hold of that sum in a sandbox is worth. -/
noncomputable def Try.pinned : Pinned := { name := "ytnibggkjgpgljaa", sum := "635e7cfadb660333b3d7b490ff805304ae7d0755eba48c660c74a3b13651e7c2", checked := Try.checked }
namespace Rows
def none {H : Type} : Left H := { results := [], args := [] }

/-- 'laws.FnExactSameTested': WHATEVER THE INPUT: true; the input reads as it did. -/
def fnExactSameTestedSpec : ChangeSpec := { name := "fnExactSameTested", fn := fun _ => fun
  | [d1, d2] => { results := [.lit (.bool true)], args := [d1, d2] }
  | _ => none }
def fnExactSameTestedRow : OpenClaim := { program := "ytnibggkjgpgljaa", sum := "635e7cfadb660333b3d7b490ff805304ae7d0755eba48c660c74a3b13651e7c2", func := "loop.example/g01042/laws.FnExactSameTested", spec := "fnExactSameTested", apart := false }
def FnExactSameTestedSaid : Prop := fnExactSameTestedRow.holds Try.pinned (OpenSpec.ofChange fnExactSameTestedSpec)

/-- ITS FALSE NEIGHBOUR: 'it returns false'. Refute it at one input. -/
def fnExactSameTestedWrong : ChangeSpec := { name := "fnExactSameTested", fn := fun _ => fun
  | [d1, d2] => { results := [.lit (.bool false)], args := [d1, d2] }
  | _ => none }
def FnExactSameTestedWrongFalsely : Prop := fnExactSameTestedRow.holds Try.pinned (OpenSpec.ofChange fnExactSameTestedWrong)

/-- 'laws.FnExactValidTested': WHATEVER THE INPUT: true; the input reads as it did. -/
def fnExactValidTestedSpec : ChangeSpec := { name := "fnExactValidTested", fn := fun _ => fun
  | [d] => { results := [.lit (.bool true)], args := [d] }
  | _ => none }
def fnExactValidTestedRow : OpenClaim := { program := "ytnibggkjgpgljaa", sum := "635e7cfadb660333b3d7b490ff805304ae7d0755eba48c660c74a3b13651e7c2", func := "loop.example/g01042/laws.FnExactValidTested", spec := "fnExactValidTested", unfollowed := true, recurses := true, apart := false }
def FnExactValidTestedSaid : Prop := fnExactValidTestedRow.holds Try.pinned (OpenSpec.ofChange fnExactValidTestedSpec)

/-- ITS FALSE NEIGHBOUR: 'it returns false'. Refute it at one input. -/
def fnExactValidTestedWrong : ChangeSpec := { name := "fnExactValidTested", fn := fun _ => fun
  | [d] => { results := [.lit (.bool false)], args := [d] }
  | _ => none }
def FnExactValidTestedWrongFalsely : Prop := fnExactValidTestedRow.holds Try.pinned (OpenSpec.ofChange fnExactValidTestedWrong)

/-- 'laws.FnExactCountWeak': WHATEVER THE INPUT: true; the input reads as it did. -/
def fnExactCountWeakSpec : ChangeSpec := { name := "fnExactCountWeak", fn := fun _ => fun
  | [d1, d2] => { results := [.lit (.bool true)], args := [d1, d2] }
  | _ => none }
def fnExactCountWeakRow : OpenClaim := { program := "ytnibggkjgpgljaa", sum := "635e7cfadb660333b3d7b490ff805304ae7d0755eba48c660c74a3b13651e7c2", func := "loop.example/g01042/laws.FnExactCountWeak", spec := "fnExactCountWeak", unfollowed := true, recurses := true, apart := false }
def FnExactCountWeakSaid : Prop := fnExactCountWeakRow.holds Try.pinned (OpenSpec.ofChange fnExactCountWeakSpec)

/-- ITS FALSE NEIGHBOUR: 'it returns false'. Refute it at one input. -/
def fnExactCountWeakWrong : ChangeSpec := { name := "fnExactCountWeak", fn := fun _ => fun
  | [d1, d2] => { results := [.lit (.bool false)], args := [d1, d2] }
  | _ => none }
def FnExactCountWeakWrongFalsely : Prop := fnExactCountWeakRow.holds Try.pinned (OpenSpec.ofChange fnExactCountWeakWrong)

/-- 'laws.FnExactPassChance': WHATEVER THE INPUT: true; the input reads as it did. -/
def fnExactPassChanceSpec : ChangeSpec := { name := "fnExactPassChance", fn := fun _ => fun
  | [d1, d2, d3, d4] => { results := [.lit (.bool true)], args := [d1, d2, d3, d4] }
  | _ => none }
def fnExactPassChanceRow : OpenClaim := { program := "ytnibggkjgpgljaa", sum := "635e7cfadb660333b3d7b490ff805304ae7d0755eba48c660c74a3b13651e7c2", func := "loop.example/g01042/laws.FnExactPassChance", spec := "fnExactPassChance", apart := false }
def FnExactPassChanceSaid : Prop := fnExactPassChanceRow.holds Try.pinned (OpenSpec.ofChange fnExactPassChanceSpec)

/-- ITS FALSE NEIGHBOUR: 'it returns false'. Refute it at one input. -/
def fnExactPassChanceWrong : ChangeSpec := { name := "fnExactPassChance", fn := fun _ => fun
  | [d1, d2, d3, d4] => { results := [.lit (.bool false)], args := [d1, d2, d3, d4] }
  | _ => none }
def FnExactPassChanceWrongFalsely : Prop := fnExactPassChanceRow.holds Try.pinned (OpenSpec.ofChange fnExactPassChanceWrong)

/-- 'laws.FnExactTestsFor': WHATEVER THE INPUT: true; the input reads as it did. -/
def fnExactTestsForSpec : ChangeSpec := { name := "fnExactTestsFor", fn := fun _ => fun
  | [d1, d2, d3, d4] => { results := [.lit (.bool true)], args := [d1, d2, d3, d4] }
  | _ => none }
def fnExactTestsForRow : OpenClaim := { program := "ytnibggkjgpgljaa", sum := "635e7cfadb660333b3d7b490ff805304ae7d0755eba48c660c74a3b13651e7c2", func := "loop.example/g01042/laws.FnExactTestsFor", spec := "fnExactTestsFor", apart := false }
def FnExactTestsForSaid : Prop := fnExactTestsForRow.holds Try.pinned (OpenSpec.ofChange fnExactTestsForSpec)

/-- ITS FALSE NEIGHBOUR: 'it returns false'. Refute it at one input. -/
def fnExactTestsForWrong : ChangeSpec := { name := "fnExactTestsFor", fn := fun _ => fun
  | [d1, d2, d3, d4] => { results := [.lit (.bool false)], args := [d1, d2, d3, d4] }
  | _ => none }
def FnExactTestsForWrongFalsely : Prop := fnExactTestsForRow.holds Try.pinned (OpenSpec.ofChange fnExactTestsForWrong)

/-- 'laws.FnExactWeakestTested': WHATEVER THE INPUT: true; the input reads as it did. -/
def fnExactWeakestTestedSpec : ChangeSpec := { name := "fnExactWeakestTested", fn := fun _ => fun
  | [d] => { results := [.lit (.bool true)], args := [d] }
  | _ => none }
def fnExactWeakestTestedRow : OpenClaim := { program := "ytnibggkjgpgljaa", sum := "635e7cfadb660333b3d7b490ff805304ae7d0755eba48c660c74a3b13651e7c2", func := "loop.example/g01042/laws.FnExactWeakestTested", spec := "fnExactWeakestTested", unfollowed := true, recurses := true, apart := false }
def FnExactWeakestTestedSaid : Prop := fnExactWeakestTestedRow.holds Try.pinned (OpenSpec.ofChange fnExactWeakestTestedSpec)

/-- ITS FALSE NEIGHBOUR: 'it returns false'. Refute it at one input. -/
def fnExactWeakestTestedWrong : ChangeSpec := { name := "fnExactWeakestTested", fn := fun _ => fun
  | [d] => { results := [.lit (.bool false)], args := [d] }
  | _ => none }
def FnExactWeakestTestedWrongFalsely : Prop := fnExactWeakestTestedRow.holds Try.pinned (OpenSpec.ofChange fnExactWeakestTestedWrong)

/-- 'laws.FnExactWeakUntil': WHATEVER THE INPUT: true; the input reads as it did. -/
def fnExactWeakUntilSpec : ChangeSpec := { name := "fnExactWeakUntil", fn := fun _ => fun
  | [d1, d2, d3, d4] => { results := [.lit (.bool true)], args := [d1, d2, d3, d4] }
  | _ => none }
def fnExactWeakUntilRow : OpenClaim := { program := "ytnibggkjgpgljaa", sum := "635e7cfadb660333b3d7b490ff805304ae7d0755eba48c660c74a3b13651e7c2", func := "loop.example/g01042/laws.FnExactWeakUntil", spec := "fnExactWeakUntil", apart := false }
def FnExactWeakUntilSaid : Prop := fnExactWeakUntilRow.holds Try.pinned (OpenSpec.ofChange fnExactWeakUntilSpec)

/-- ITS FALSE NEIGHBOUR: 'it returns false'. Refute it at one input. -/
def fnExactWeakUntilWrong : ChangeSpec := { name := "fnExactWeakUntil", fn := fun _ => fun
  | [d1, d2, d3, d4] => { results := [.lit (.bool false)], args := [d1, d2, d3, d4] }
  | _ => none }
def FnExactWeakUntilWrongFalsely : Prop := fnExactWeakUntilRow.holds Try.pinned (OpenSpec.ofChange fnExactWeakUntilWrong)

/-- 'laws.FnExactMeanStrength': WHATEVER THE INPUT: true; the input reads as it did. -/
def fnExactMeanStrengthSpec : ChangeSpec := { name := "fnExactMeanStrength", fn := fun _ => fun
  | [d] => { results := [.lit (.bool true)], args := [d] }
  | _ => none }
def fnExactMeanStrengthRow : OpenClaim := { program := "ytnibggkjgpgljaa", sum := "635e7cfadb660333b3d7b490ff805304ae7d0755eba48c660c74a3b13651e7c2", func := "loop.example/g01042/laws.FnExactMeanStrength", spec := "fnExactMeanStrength", unfollowed := true, recurses := true, apart := false }
def FnExactMeanStrengthSaid : Prop := fnExactMeanStrengthRow.holds Try.pinned (OpenSpec.ofChange fnExactMeanStrengthSpec)

/-- ITS FALSE NEIGHBOUR: 'it returns false'. Refute it at one input. -/
def fnExactMeanStrengthWrong : ChangeSpec := { name := "fnExactMeanStrength", fn := fun _ => fun
  | [d] => { results := [.lit (.bool false)], args := [d] }
  | _ => none }
def FnExactMeanStrengthWrongFalsely : Prop := fnExactMeanStrengthRow.holds Try.pinned (OpenSpec.ofChange fnExactMeanStrengthWrong)

/-- 'laws.FnExactFrostLoss': WHATEVER THE INPUT: true; the input reads as it did. -/
def fnExactFrostLossSpec : ChangeSpec := { name := "fnExactFrostLoss", fn := fun _ => fun
  | [d1, d2] => { results := [.lit (.bool true)], args := [d1, d2] }
  | _ => none }
def fnExactFrostLossRow : OpenClaim := { program := "ytnibggkjgpgljaa", sum := "635e7cfadb660333b3d7b490ff805304ae7d0755eba48c660c74a3b13651e7c2", func := "loop.example/g01042/laws.FnExactFrostLoss", spec := "fnExactFrostLoss", inPlace := ["internal/bytealg.IndexByteString"], unfollowed := true, recurses := true, apart := false }
def FnExactFrostLossSaid : Prop := fnExactFrostLossRow.holds Try.pinned (OpenSpec.ofChange fnExactFrostLossSpec)

/-- ITS FALSE NEIGHBOUR: 'it returns false'. Refute it at one input. -/
def fnExactFrostLossWrong : ChangeSpec := { name := "fnExactFrostLoss", fn := fun _ => fun
  | [d1, d2] => { results := [.lit (.bool false)], args := [d1, d2] }
  | _ => none }
def FnExactFrostLossWrongFalsely : Prop := fnExactFrostLossRow.holds Try.pinned (OpenSpec.ofChange fnExactFrostLossWrong)

/-- 'laws.FnTiles': WHATEVER THE INPUT: true; the input reads as it did. -/
def fnTilesSpec : ChangeSpec := { name := "fnTiles", fn := fun _ => fun
  | [d1, d2] => { results := [.lit (.bool true)], args := [d1, d2] }
  | _ => none }
def fnTilesRow : OpenClaim := { program := "ytnibggkjgpgljaa", sum := "635e7cfadb660333b3d7b490ff805304ae7d0755eba48c660c74a3b13651e7c2", func := "loop.example/g01042/laws.FnTiles", spec := "fnTiles", inPlace := ["internal/bytealg.IndexByteString", "internal/abi.NoEscape", "internal/bytealg.MakeNoZero"], unfollowed := true, recurses := true, apart := false }
def FnTilesSaid : Prop := fnTilesRow.holds Try.pinned (OpenSpec.ofChange fnTilesSpec)

/-- ITS FALSE NEIGHBOUR: 'it returns false'. Refute it at one input. -/
def fnTilesWrong : ChangeSpec := { name := "fnTiles", fn := fun _ => fun
  | [d1, d2] => { results := [.lit (.bool false)], args := [d1, d2] }
  | _ => none }
def FnTilesWrongFalsely : Prop := fnTilesRow.holds Try.pinned (OpenSpec.ofChange fnTilesWrong)

/- THE SECOND FORM. 'bulk': how many values and letters a reading holds, each counted each time it is reached (what is shared counts as often as it is met; a slice's spare places count too). A statement '..UptoSaid' is the law's where the arguments, and the package variables that the reading takes, are together of bulk at most 1048576: NARROWER than '..Said'. Prove '..Said' where nothing that the law and all that it calls make is longer than what came in: it says more and counts as full. Else prove '..UptoSaid'. A law counts once. -/
mutual
def uptoBulk {H : Type} : DataW H → Nat
  | .lit (.string bytes) => bytes.length + 1
  | .lit _ => 1
  | .nil => 1
  | .ptr d => uptoBulk d + 1
  | .slice elems spare => uptoBulkAll elems + uptoBulkAll spare + 1
  | .agg parts => uptoBulkAll parts + 1
  | .iface _ d => uptoBulk d + 1
  | .map entries => uptoBulkEntries entries + 1
  | .held _ => 1
def uptoBulkAll {H : Type} : List (DataW H) → Nat
  | [] => 0
  | d :: r => uptoBulk d + uptoBulkAll r
def uptoBulkEntries {H : Type} : List (Lit × DataW H) → Nat
  | [] => 0
  | x :: r => uptoBulkEntry x + uptoBulkEntries r
def uptoBulkEntry {H : Type} : Lit × DataW H → Nat
  | (.string bytes, d) => bytes.length + uptoBulk d + 1
  | (_, d) => uptoBulk d + 1
 end
def uptoSmall : (H : Type) → List (DataW H) → Bool := fun _ ds => decide (uptoBulkAll ds ≤ 1048576)
def OpenSpec.upto (s : _root_.Go.ChangeSpec) : _root_.Go.OpenSpec := { _root_.Go.OpenSpec.ofChange s with cond := some uptoSmall }

/-- 'laws.FnExactSameTested', WHERE WHAT IT READS IS OF BULK AT MOST 1048576: true; the input reads as it did. -/
def fnExactSameTestedUptoRow : OpenClaim := { program := "ytnibggkjgpgljaa", sum := "635e7cfadb660333b3d7b490ff805304ae7d0755eba48c660c74a3b13651e7c2", func := "loop.example/g01042/laws.FnExactSameTested", spec := "fnExactSameTested", apart := false, narrowed := true }
def FnExactSameTestedUptoSaid : Prop := fnExactSameTestedUptoRow.holds Try.pinned (OpenSpec.upto fnExactSameTestedSpec)

/-- 'laws.FnExactValidTested', WHERE WHAT IT READS IS OF BULK AT MOST 1048576: true; the input reads as it did. -/
def fnExactValidTestedUptoRow : OpenClaim := { program := "ytnibggkjgpgljaa", sum := "635e7cfadb660333b3d7b490ff805304ae7d0755eba48c660c74a3b13651e7c2", func := "loop.example/g01042/laws.FnExactValidTested", spec := "fnExactValidTested", unfollowed := true, recurses := true, apart := false, narrowed := true }
def FnExactValidTestedUptoSaid : Prop := fnExactValidTestedUptoRow.holds Try.pinned (OpenSpec.upto fnExactValidTestedSpec)

/-- 'laws.FnExactCountWeak', WHERE WHAT IT READS IS OF BULK AT MOST 1048576: true; the input reads as it did. -/
def fnExactCountWeakUptoRow : OpenClaim := { program := "ytnibggkjgpgljaa", sum := "635e7cfadb660333b3d7b490ff805304ae7d0755eba48c660c74a3b13651e7c2", func := "loop.example/g01042/laws.FnExactCountWeak", spec := "fnExactCountWeak", unfollowed := true, recurses := true, apart := false, narrowed := true }
def FnExactCountWeakUptoSaid : Prop := fnExactCountWeakUptoRow.holds Try.pinned (OpenSpec.upto fnExactCountWeakSpec)

/-- 'laws.FnExactPassChance', WHERE WHAT IT READS IS OF BULK AT MOST 1048576: true; the input reads as it did. -/
def fnExactPassChanceUptoRow : OpenClaim := { program := "ytnibggkjgpgljaa", sum := "635e7cfadb660333b3d7b490ff805304ae7d0755eba48c660c74a3b13651e7c2", func := "loop.example/g01042/laws.FnExactPassChance", spec := "fnExactPassChance", apart := false, narrowed := true }
def FnExactPassChanceUptoSaid : Prop := fnExactPassChanceUptoRow.holds Try.pinned (OpenSpec.upto fnExactPassChanceSpec)

/-- 'laws.FnExactTestsFor', WHERE WHAT IT READS IS OF BULK AT MOST 1048576: true; the input reads as it did. -/
def fnExactTestsForUptoRow : OpenClaim := { program := "ytnibggkjgpgljaa", sum := "635e7cfadb660333b3d7b490ff805304ae7d0755eba48c660c74a3b13651e7c2", func := "loop.example/g01042/laws.FnExactTestsFor", spec := "fnExactTestsFor", apart := false, narrowed := true }
def FnExactTestsForUptoSaid : Prop := fnExactTestsForUptoRow.holds Try.pinned (OpenSpec.upto fnExactTestsForSpec)

/-- 'laws.FnExactWeakestTested', WHERE WHAT IT READS IS OF BULK AT MOST 1048576: true; the input reads as it did. -/
def fnExactWeakestTestedUptoRow : OpenClaim := { program := "ytnibggkjgpgljaa", sum := "635e7cfadb660333b3d7b490ff805304ae7d0755eba48c660c74a3b13651e7c2", func := "loop.example/g01042/laws.FnExactWeakestTested", spec := "fnExactWeakestTested", unfollowed := true, recurses := true, apart := false, narrowed := true }
def FnExactWeakestTestedUptoSaid : Prop := fnExactWeakestTestedUptoRow.holds Try.pinned (OpenSpec.upto fnExactWeakestTestedSpec)

/-- 'laws.FnExactWeakUntil', WHERE WHAT IT READS IS OF BULK AT MOST 1048576: true; the input reads as it did. -/
def fnExactWeakUntilUptoRow : OpenClaim := { program := "ytnibggkjgpgljaa", sum := "635e7cfadb660333b3d7b490ff805304ae7d0755eba48c660c74a3b13651e7c2", func := "loop.example/g01042/laws.FnExactWeakUntil", spec := "fnExactWeakUntil", apart := false, narrowed := true }
def FnExactWeakUntilUptoSaid : Prop := fnExactWeakUntilUptoRow.holds Try.pinned (OpenSpec.upto fnExactWeakUntilSpec)

/-- 'laws.FnExactMeanStrength', WHERE WHAT IT READS IS OF BULK AT MOST 1048576: true; the input reads as it did. -/
def fnExactMeanStrengthUptoRow : OpenClaim := { program := "ytnibggkjgpgljaa", sum := "635e7cfadb660333b3d7b490ff805304ae7d0755eba48c660c74a3b13651e7c2", func := "loop.example/g01042/laws.FnExactMeanStrength", spec := "fnExactMeanStrength", unfollowed := true, recurses := true, apart := false, narrowed := true }
def FnExactMeanStrengthUptoSaid : Prop := fnExactMeanStrengthUptoRow.holds Try.pinned (OpenSpec.upto fnExactMeanStrengthSpec)

/-- 'laws.FnExactFrostLoss', WHERE WHAT IT READS IS OF BULK AT MOST 1048576: true; the input reads as it did. -/
def fnExactFrostLossUptoRow : OpenClaim := { program := "ytnibggkjgpgljaa", sum := "635e7cfadb660333b3d7b490ff805304ae7d0755eba48c660c74a3b13651e7c2", func := "loop.example/g01042/laws.FnExactFrostLoss", spec := "fnExactFrostLoss", inPlace := ["internal/bytealg.IndexByteString"], unfollowed := true, recurses := true, apart := false, narrowed := true }
def FnExactFrostLossUptoSaid : Prop := fnExactFrostLossUptoRow.holds Try.pinned (OpenSpec.upto fnExactFrostLossSpec)

/-- 'laws.FnTiles', WHERE WHAT IT READS IS OF BULK AT MOST 1048576: true; the input reads as it did. -/
def fnTilesUptoRow : OpenClaim := { program := "ytnibggkjgpgljaa", sum := "635e7cfadb660333b3d7b490ff805304ae7d0755eba48c660c74a3b13651e7c2", func := "loop.example/g01042/laws.FnTiles", spec := "fnTiles", inPlace := ["internal/bytealg.IndexByteString", "internal/abi.NoEscape", "internal/bytealg.MakeNoZero"], unfollowed := true, recurses := true, apart := false, narrowed := true }
def FnTilesUptoSaid : Prop := fnTilesUptoRow.holds Try.pinned (OpenSpec.upto fnTilesSpec)

end Rows
end Go.Proofs.Ytnibggkjgpgljaa
