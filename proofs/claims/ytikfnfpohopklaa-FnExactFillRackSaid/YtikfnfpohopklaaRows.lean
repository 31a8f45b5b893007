/-
  No cell of these rows narrows 'for every input' (looked for: loops, veiled, ifaces, maps, wideKeys, modest, calm, conditions, laid).
  DERIVED. THE GIVEN ROWS OF THIS SEAT. 11 by the template 'for every input the law returns true; each argument reads behind the call as it read before'; 0 by the template 'total and deterministic' (their statements: YtikfnfpohopklaaTotals.lean).
  GIVEN WITH THE SEED: the statements are not yours to turn. If you find one false, say at which input.
  Laid BY PROGRAM, IN A SANDBOX (cutbox-rows.mjs): the forced cells as the released guide's own fill.sh prints them over the translation 8b59c9e81c49c3fd… (all of the seat's roots in one cut). By AI agents, Wed Nov 11 2026. No macro, syntax, notation, axiom, sorry.
-/
import Derived.Test.YtikfnfpohopklaaChecked
import GoSem.Claim
import GoSem.ClaimJoined
import GoSem.ClaimMapViews
import Derived.JoinedTies
import Derived.KernelRfl
namespace Go.Proofs.Ytikfnfpohopklaa
/- THE CELL 'sum', in the pinned program and in every row, IS THE sha256 OF THE DUMP (.gsa) THAT YtikfnfpohopklaaProg.lean LOADS. Nothing in Lean hashes anything: it is a label: what it is worth is what the hold of that sum in a sandbox is worth. -/
noncomputable def Try.pinned : Pinned := { name := "ytikfnfpohopklaa", sum := "8b59c9e81c49c3fd381da721b5a78c489c86eb3b8957e9776cab5543a61a55b4", checked := Try.checked }
namespace Rows
def none {H : Type} : Left H := { results := [], args := [] }

/-- 'laws.FnExactSameRacks': WHATEVER THE INPUT: true; the input reads as it did. -/
def fnExactSameRacksSpec : ChangeSpec := { name := "fnExactSameRacks", fn := fun _ => fun
  | [d1, d2] => { results := [.lit (.bool true)], args := [d1, d2] }
  | _ => none }
def fnExactSameRacksRow : OpenClaim := { program := "ytikfnfpohopklaa", sum := "8b59c9e81c49c3fd381da721b5a78c489c86eb3b8957e9776cab5543a61a55b4", func := "loop.example/g01042/laws.FnExactSameRacks", spec := "fnExactSameRacks", apart := false }
def FnExactSameRacksSaid : Prop := fnExactSameRacksRow.holds Try.pinned (OpenSpec.ofChange fnExactSameRacksSpec)

/-- ITS FALSE NEIGHBOUR: 'it returns false'. Refute it at one input. -/
def fnExactSameRacksWrong : ChangeSpec := { name := "fnExactSameRacks", fn := fun _ => fun
  | [d1, d2] => { results := [.lit (.bool false)], args := [d1, d2] }
  | _ => none }
def FnExactSameRacksWrongFalsely : Prop := fnExactSameRacksRow.holds Try.pinned (OpenSpec.ofChange fnExactSameRacksWrong)

/-- 'laws.FnExactPointsBetween': WHATEVER THE INPUT: true; the input reads as it did. -/
def fnExactPointsBetweenSpec : ChangeSpec := { name := "fnExactPointsBetween", fn := fun _ => fun
  | [d1, d2, d3] => { results := [.lit (.bool true)], args := [d1, d2, d3] }
  | _ => none }
def fnExactPointsBetweenRow : OpenClaim := { program := "ytikfnfpohopklaa", sum := "8b59c9e81c49c3fd381da721b5a78c489c86eb3b8957e9776cab5543a61a55b4", func := "loop.example/g01042/laws.FnExactPointsBetween", spec := "fnExactPointsBetween", inPlace := ["internal/bytealg.IndexByteString"], apart := false }
def FnExactPointsBetweenSaid : Prop := fnExactPointsBetweenRow.holds Try.pinned (OpenSpec.ofChange fnExactPointsBetweenSpec)

/-- ITS FALSE NEIGHBOUR: 'it returns false'. Refute it at one input. -/
def fnExactPointsBetweenWrong : ChangeSpec := { name := "fnExactPointsBetween", fn := fun _ => fun
  | [d1, d2, d3] => { results := [.lit (.bool false)], args := [d1, d2, d3] }
  | _ => none }
def FnExactPointsBetweenWrongFalsely : Prop := fnExactPointsBetweenRow.holds Try.pinned (OpenSpec.ofChange fnExactPointsBetweenWrong)

/-- 'laws.FnExactValidRacks': WHATEVER THE INPUT: true; the input reads as it did. -/
def fnExactValidRacksSpec : ChangeSpec := { name := "fnExactValidRacks", fn := fun _ => fun
  | [d] => { results := [.lit (.bool true)], args := [d] }
  | _ => none }
def fnExactValidRacksRow : OpenClaim := { program := "ytikfnfpohopklaa", sum := "8b59c9e81c49c3fd381da721b5a78c489c86eb3b8957e9776cab5543a61a55b4", func := "loop.example/g01042/laws.FnExactValidRacks", spec := "fnExactValidRacks", unfollowed := true, recurses := true, apart := false }
def FnExactValidRacksSaid : Prop := fnExactValidRacksRow.holds Try.pinned (OpenSpec.ofChange fnExactValidRacksSpec)

/-- ITS FALSE NEIGHBOUR: 'it returns false'. Refute it at one input. -/
def fnExactValidRacksWrong : ChangeSpec := { name := "fnExactValidRacks", fn := fun _ => fun
  | [d] => { results := [.lit (.bool false)], args := [d] }
  | _ => none }
def FnExactValidRacksWrongFalsely : Prop := fnExactValidRacksRow.holds Try.pinned (OpenSpec.ofChange fnExactValidRacksWrong)

/-- 'laws.FnExactPointsOf': WHATEVER THE INPUT: true; the input reads as it did. -/
def fnExactPointsOfSpec : ChangeSpec := { name := "fnExactPointsOf", fn := fun _ => fun
  | [d] => { results := [.lit (.bool true)], args := [d] }
  | _ => none }
def fnExactPointsOfRow : OpenClaim := { program := "ytikfnfpohopklaa", sum := "8b59c9e81c49c3fd381da721b5a78c489c86eb3b8957e9776cab5543a61a55b4", func := "loop.example/g01042/laws.FnExactPointsOf", spec := "fnExactPointsOf", inPlace := ["internal/bytealg.IndexByteString"], apart := false }
def FnExactPointsOfSaid : Prop := fnExactPointsOfRow.holds Try.pinned (OpenSpec.ofChange fnExactPointsOfSpec)

/-- ITS FALSE NEIGHBOUR: 'it returns false'. Refute it at one input. -/
def fnExactPointsOfWrong : ChangeSpec := { name := "fnExactPointsOf", fn := fun _ => fun
  | [d] => { results := [.lit (.bool false)], args := [d] }
  | _ => none }
def FnExactPointsOfWrongFalsely : Prop := fnExactPointsOfRow.holds Try.pinned (OpenSpec.ofChange fnExactPointsOfWrong)

/-- 'laws.FnExactDryOn': WHATEVER THE INPUT: true; the input reads as it did. -/
def fnExactDryOnSpec : ChangeSpec := { name := "fnExactDryOn", fn := fun _ => fun
  | [d1, d2, d3] => { results := [.lit (.bool true)], args := [d1, d2, d3] }
  | _ => none }
def fnExactDryOnRow : OpenClaim := { program := "ytikfnfpohopklaa", sum := "8b59c9e81c49c3fd381da721b5a78c489c86eb3b8957e9776cab5543a61a55b4", func := "loop.example/g01042/laws.FnExactDryOn", spec := "fnExactDryOn", inPlace := ["internal/bytealg.IndexByteString"], apart := false }
def FnExactDryOnSaid : Prop := fnExactDryOnRow.holds Try.pinned (OpenSpec.ofChange fnExactDryOnSpec)

/-- ITS FALSE NEIGHBOUR: 'it returns false'. Refute it at one input. -/
def fnExactDryOnWrong : ChangeSpec := { name := "fnExactDryOn", fn := fun _ => fun
  | [d1, d2, d3] => { results := [.lit (.bool false)], args := [d1, d2, d3] }
  | _ => none }
def FnExactDryOnWrongFalsely : Prop := fnExactDryOnRow.holds Try.pinned (OpenSpec.ofChange fnExactDryOnWrong)

/-- 'laws.FnExactEmptyRack': WHATEVER THE INPUT: true; the input reads as it did. -/
def fnExactEmptyRackSpec : ChangeSpec := { name := "fnExactEmptyRack", fn := fun _ => fun
  | [d1, d2] => { results := [.lit (.bool true)], args := [d1, d2] }
  | _ => none }
def fnExactEmptyRackRow : OpenClaim := { program := "ytikfnfpohopklaa", sum := "8b59c9e81c49c3fd381da721b5a78c489c86eb3b8957e9776cab5543a61a55b4", func := "loop.example/g01042/laws.FnExactEmptyRack", spec := "fnExactEmptyRack", unfollowed := true, recurses := true, apart := false }
def FnExactEmptyRackSaid : Prop := fnExactEmptyRackRow.holds Try.pinned (OpenSpec.ofChange fnExactEmptyRackSpec)

/-- ITS FALSE NEIGHBOUR: 'it returns false'. Refute it at one input. -/
def fnExactEmptyRackWrong : ChangeSpec := { name := "fnExactEmptyRack", fn := fun _ => fun
  | [d1, d2] => { results := [.lit (.bool false)], args := [d1, d2] }
  | _ => none }
def FnExactEmptyRackWrongFalsely : Prop := fnExactEmptyRackRow.holds Try.pinned (OpenSpec.ofChange fnExactEmptyRackWrong)

/-- 'laws.FnExactFillRack': WHATEVER THE INPUT: true; the input reads as it did. -/
def fnExactFillRackSpec : ChangeSpec := { name := "fnExactFillRack", fn := fun _ => fun
  | [d1, d2, d3, d4, d5] => { results := [.lit (.bool true)], args := [d1, d2, d3, d4, d5] }
  | _ => none }
def fnExactFillRackRow : OpenClaim := { program := "ytikfnfpohopklaa", sum := "8b59c9e81c49c3fd381da721b5a78c489c86eb3b8957e9776cab5543a61a55b4", func := "loop.example/g01042/laws.FnExactFillRack", spec := "fnExactFillRack", unfollowed := true, recurses := true, apart := false }
def FnExactFillRackSaid : Prop := fnExactFillRackRow.holds Try.pinned (OpenSpec.ofChange fnExactFillRackSpec)

/-- ITS FALSE NEIGHBOUR: 'it returns false'. Refute it at one input. -/
def fnExactFillRackWrong : ChangeSpec := { name := "fnExactFillRack", fn := fun _ => fun
  | [d1, d2, d3, d4, d5] => { results := [.lit (.bool false)], args := [d1, d2, d3, d4, d5] }
  | _ => none }
def FnExactFillRackWrongFalsely : Prop := fnExactFillRackRow.holds Try.pinned (OpenSpec.ofChange fnExactFillRackWrong)

/-- 'laws.FnExactSpreadBricks': WHATEVER THE INPUT: true; the input reads as it did. -/
def fnExactSpreadBricksSpec : ChangeSpec := { name := "fnExactSpreadBricks", fn := fun _ => fun
  | [d1, d2] => { results := [.lit (.bool true)], args := [d1, d2] }
  | _ => none }
def fnExactSpreadBricksRow : OpenClaim := { program := "ytikfnfpohopklaa", sum := "8b59c9e81c49c3fd381da721b5a78c489c86eb3b8957e9776cab5543a61a55b4", func := "loop.example/g01042/laws.FnExactSpreadBricks", spec := "fnExactSpreadBricks", unfollowed := true, recurses := true, apart := false }
def FnExactSpreadBricksSaid : Prop := fnExactSpreadBricksRow.holds Try.pinned (OpenSpec.ofChange fnExactSpreadBricksSpec)

/-- ITS FALSE NEIGHBOUR: 'it returns false'. Refute it at one input. -/
def fnExactSpreadBricksWrong : ChangeSpec := { name := "fnExactSpreadBricks", fn := fun _ => fun
  | [d1, d2] => { results := [.lit (.bool false)], args := [d1, d2] }
  | _ => none }
def FnExactSpreadBricksWrongFalsely : Prop := fnExactSpreadBricksRow.holds Try.pinned (OpenSpec.ofChange fnExactSpreadBricksWrong)

/-- 'laws.FnExactReadyRacks': WHATEVER THE INPUT: true; the input reads as it did. -/
def fnExactReadyRacksSpec : ChangeSpec := { name := "fnExactReadyRacks", fn := fun _ => fun
  | [d1, d2, d3] => { results := [.lit (.bool true)], args := [d1, d2, d3] }
  | _ => none }
def fnExactReadyRacksRow : OpenClaim := { program := "ytikfnfpohopklaa", sum := "8b59c9e81c49c3fd381da721b5a78c489c86eb3b8957e9776cab5543a61a55b4", func := "loop.example/g01042/laws.FnExactReadyRacks", spec := "fnExactReadyRacks", inPlace := ["internal/bytealg.IndexByteString"], unfollowed := true, recurses := true, apart := false }
def FnExactReadyRacksSaid : Prop := fnExactReadyRacksRow.holds Try.pinned (OpenSpec.ofChange fnExactReadyRacksSpec)

/-- ITS FALSE NEIGHBOUR: 'it returns false'. Refute it at one input. -/
def fnExactReadyRacksWrong : ChangeSpec := { name := "fnExactReadyRacks", fn := fun _ => fun
  | [d1, d2, d3] => { results := [.lit (.bool false)], args := [d1, d2, d3] }
  | _ => none }
def FnExactReadyRacksWrongFalsely : Prop := fnExactReadyRacksRow.holds Try.pinned (OpenSpec.ofChange fnExactReadyRacksWrong)

/-- 'laws.FnExactDryBricks': WHATEVER THE INPUT: true; the input reads as it did. -/
def fnExactDryBricksSpec : ChangeSpec := { name := "fnExactDryBricks", fn := fun _ => fun
  | [d1, d2] => { results := [.lit (.bool true)], args := [d1, d2] }
  | _ => none }
def fnExactDryBricksRow : OpenClaim := { program := "ytikfnfpohopklaa", sum := "8b59c9e81c49c3fd381da721b5a78c489c86eb3b8957e9776cab5543a61a55b4", func := "loop.example/g01042/laws.FnExactDryBricks", spec := "fnExactDryBricks", inPlace := ["internal/bytealg.IndexByteString"], unfollowed := true, recurses := true, apart := false }
def FnExactDryBricksSaid : Prop := fnExactDryBricksRow.holds Try.pinned (OpenSpec.ofChange fnExactDryBricksSpec)

/-- ITS FALSE NEIGHBOUR: 'it returns false'. Refute it at one input. -/
def fnExactDryBricksWrong : ChangeSpec := { name := "fnExactDryBricks", fn := fun _ => fun
  | [d1, d2] => { results := [.lit (.bool false)], args := [d1, d2] }
  | _ => none }
def FnExactDryBricksWrongFalsely : Prop := fnExactDryBricksRow.holds Try.pinned (OpenSpec.ofChange fnExactDryBricksWrong)

/-- 'laws.FnDried': WHATEVER THE INPUT: true; the input reads as it did. -/
def fnDriedSpec : ChangeSpec := { name := "fnDried", fn := fun _ => fun
  | [d] => { results := [.lit (.bool true)], args := [d] }
  | _ => none }
def fnDriedRow : OpenClaim := { program := "ytikfnfpohopklaa", sum := "8b59c9e81c49c3fd381da721b5a78c489c86eb3b8957e9776cab5543a61a55b4", func := "loop.example/g01042/laws.FnDried", spec := "fnDried", inPlace := ["internal/bytealg.IndexByteString"], unfollowed := true, recurses := true, apart := false }
def FnDriedSaid : Prop := fnDriedRow.holds Try.pinned (OpenSpec.ofChange fnDriedSpec)

/-- ITS FALSE NEIGHBOUR: 'it returns false'. Refute it at one input. -/
def fnDriedWrong : ChangeSpec := { name := "fnDried", fn := fun _ => fun
  | [d] => { results := [.lit (.bool false)], args := [d] }
  | _ => none }
def FnDriedWrongFalsely : Prop := fnDriedRow.holds Try.pinned (OpenSpec.ofChange fnDriedWrong)

/- THE SECOND FORM. 'bulk': how many values and letters a reading holds, each counted each time it is reached (what is shared counts as often as it is met; a slice's spare places count too). A statement '..UptoSaid' is the law's where the arguments, and the package variables that the reading takes, are together of bulk at most 1048576: NARROWER than '..Said'. Prove '..Said' where nothing that the law and all that it calls make is longer than what came in: it says more and counts as full. Else prove '..UptoSaid'. A law counts once. -/
mutual
def uptoBulk {H : Type} : DataW H → Nat
  | .lit (.string bytes) => bytes.length + 1
  | .lit _ => 1
  | .nil => 1
  | .ptr d => uptoBulk d + 1
  | .slice elems spare => uptoBulkAll elems + uptoBulkAll spare + 1
  | .agg parts => uptoBulkAll parts + 1
  | .iface _ d => uptoBulk d + 1
  | .map entries => uptoBulkEntries entries + 1
  | .held _ => 1
def uptoBulkAll {H : Type} : List (DataW H) → Nat
  | [] => 0
  | d :: r => uptoBulk d + uptoBulkAll r
def uptoBulkEntries {H : Type} : List (Lit × DataW H) → Nat
  | [] => 0
  | x :: r => uptoBulkEntry x + uptoBulkEntries r
def uptoBulkEntry {H : Type} : Lit × DataW H → Nat
  | (.string bytes, d) => bytes.length + uptoBulk d + 1
  | (_, d) => uptoBulk d + 1
 end
def uptoSmall : (H : Type) → List (DataW H) → Bool := fun _ ds => decide (uptoBulkAll ds ≤ 1048576)
def OpenSpec.upto (s : _root_.Go.ChangeSpec) : _root_.Go.OpenSpec := { _root_.Go.OpenSpec.ofChange s with cond := some uptoSmall }

/-- 'laws.FnExactSameRacks', WHERE WHAT IT READS IS OF BULK AT MOST 1048576: true; the input reads as it did. -/
def fnExactSameRacksUptoRow : OpenClaim := { program := "ytikfnfpohopklaa", sum := "8b59c9e81c49c3fd381da721b5a78c489c86eb3b8957e9776cab5543a61a55b4", func := "loop.example/g01042/laws.FnExactSameRacks", spec := "fnExactSameRacks", apart := false, narrowed := true }
def FnExactSameRacksUptoSaid : Prop := fnExactSameRacksUptoRow.holds Try.pinned (OpenSpec.upto fnExactSameRacksSpec)

/-- 'laws.FnExactPointsBetween', WHERE WHAT IT READS IS OF BULK AT MOST 1048576: true; the input reads as it did. -/
def fnExactPointsBetweenUptoRow : OpenClaim := { program := "ytikfnfpohopklaa", sum := "8b59c9e81c49c3fd381da721b5a78c489c86eb3b8957e9776cab5543a61a55b4", func := "loop.example/g01042/laws.FnExactPointsBetween", spec := "fnExactPointsBetween", inPlace := ["internal/bytealg.IndexByteString"], apart := false, narrowed := true }
def FnExactPointsBetweenUptoSaid : Prop := fnExactPointsBetweenUptoRow.holds Try.pinned (OpenSpec.upto fnExactPointsBetweenSpec)

/-- 'laws.FnExactValidRacks', WHERE WHAT IT READS IS OF BULK AT MOST 1048576: true; the input reads as it did. -/
def fnExactValidRacksUptoRow : OpenClaim := { program := "ytikfnfpohopklaa", sum := "8b59c9e81c49c3fd381da721b5a78c489c86eb3b8957e9776cab5543a61a55b4", func := "loop.example/g01042/laws.FnExactValidRacks", spec := "fnExactValidRacks", unfollowed := true, recurses := true, apart := false, narrowed := true }
def FnExactValidRacksUptoSaid : Prop := fnExactValidRacksUptoRow.holds Try.pinned (OpenSpec.upto fnExactValidRacksSpec)

/-- 'laws.FnExactPointsOf', WHERE WHAT IT READS IS OF BULK AT MOST 1048576: true; the input reads as it did. -/
def fnExactPointsOfUptoRow : OpenClaim := { program := "ytikfnfpohopklaa", sum := "8b59c9e81c49c3fd381da721b5a78c489c86eb3b8957e9776cab5543a61a55b4", func := "loop.example/g01042/laws.FnExactPointsOf", spec := "fnExactPointsOf", inPlace := ["internal/bytealg.IndexByteString"], apart := false, narrowed := true }
def FnExactPointsOfUptoSaid : Prop := fnExactPointsOfUptoRow.holds Try.pinned (OpenSpec.upto fnExactPointsOfSpec)

/-- 'laws.FnExactDryOn', WHERE WHAT IT READS IS OF BULK AT MOST 1048576: true; the input reads as it did. -/
def fnExactDryOnUptoRow : OpenClaim := { program := "ytikfnfpohopklaa", sum := "8b59c9e81c49c3fd381da721b5a78c489c86eb3b8957e9776cab5543a61a55b4", func := "loop.example/g01042/laws.FnExactDryOn", spec := "fnExactDryOn", inPlace := ["internal/bytealg.IndexByteString"], apart := false, narrowed := true }
def FnExactDryOnUptoSaid : Prop := fnExactDryOnUptoRow.holds Try.pinned (OpenSpec.upto fnExactDryOnSpec)

/-- 'laws.FnExactEmptyRack', WHERE WHAT IT READS IS OF BULK AT MOST 1048576: true; the input reads as it did. -/
def fnExactEmptyRackUptoRow : OpenClaim := { program := "ytikfnfpohopklaa", sum := "8b59c9e81c49c3fd381da721b5a78c489c86eb3b8957e9776cab5543a61a55b4", func := "loop.example/g01042/laws.FnExactEmptyRack", spec := "fnExactEmptyRack", unfollowed := true, recurses := true, apart := false, narrowed := true }
def FnExactEmptyRackUptoSaid : Prop := fnExactEmptyRackUptoRow.holds Try.pinned (OpenSpec.upto fnExactEmptyRackSpec)

/-- 'laws.FnExactFillRack', WHERE WHAT IT READS IS OF BULK AT MOST 1048576: true; the input reads as it did. -/
def fnExactFillRackUptoRow : OpenClaim := { program := "ytikfnfpohopklaa", sum := "8b59c9e81c49c3fd381da721b5a78c489c86eb3b8957e9776cab5543a61a55b4", func := "loop.example/g01042/laws.FnExactFillRack", spec := "fnExactFillRack", unfollowed := true, recurses := true, apart := false, narrowed := true }
def FnExactFillRackUptoSaid : Prop := fnExactFillRackUptoRow.holds Try.pinned (OpenSpec.upto fnExactFillRackSpec)

/-- 'laws.FnExactSpreadBricks', WHERE WHAT IT READS IS OF BULK AT MOST 1048576: true; the input reads as it did. -/
def fnExactSpreadBricksUptoRow : OpenClaim := { program := "ytikfnfpohopklaa", sum := "8b59c9e81c49c3fd381da721b5a78c489c86eb3b8957e9776cab5543a61a55b4", func := "loop.example/g01042/laws.FnExactSpreadBricks", spec := "fnExactSpreadBricks", unfollowed := true, recurses := true, apart := false, narrowed := true }
def FnExactSpreadBricksUptoSaid : Prop := fnExactSpreadBricksUptoRow.holds Try.pinned (OpenSpec.upto fnExactSpreadBricksSpec)

/-- 'laws.FnExactReadyRacks', WHERE WHAT IT READS IS OF BULK AT MOST 1048576: true; the input reads as it did. -/
def fnExactReadyRacksUptoRow : OpenClaim := { program := "ytikfnfpohopklaa", sum := "8b59c9e81c49c3fd381da721b5a78c489c86eb3b8957e9776cab5543a61a55b4", func := "loop.example/g01042/laws.FnExactReadyRacks", spec := "fnExactReadyRacks", inPlace := ["internal/bytealg.IndexByteString"], unfollowed := true, recurses := true, apart := false, narrowed := true }
def FnExactReadyRacksUptoSaid : Prop := fnExactReadyRacksUptoRow.holds Try.pinned (OpenSpec.upto fnExactReadyRacksSpec)

/-- 'laws.FnExactDryBricks', WHERE WHAT IT READS IS OF BULK AT MOST 1048576: true; the input reads as it did. -/
def fnExactDryBricksUptoRow : OpenClaim := { program := "ytikfnfpohopklaa", sum := "8b59c9e81c49c3fd381da721b5a78c489c86eb3b8957e9776cab5543a61a55b4", func := "loop.example/g01042/laws.FnExactDryBricks", spec := "fnExactDryBricks", inPlace := ["internal/bytealg.IndexByteString"], unfollowed := true, recurses := true, apart := false, narrowed := true }
def FnExactDryBricksUptoSaid : Prop := fnExactDryBricksUptoRow.holds Try.pinned (OpenSpec.upto fnExactDryBricksSpec)

/-- 'laws.FnDried', WHERE WHAT IT READS IS OF BULK AT MOST 1048576: true; the input reads as it did. -/
def fnDriedUptoRow : OpenClaim := { program := "ytikfnfpohopklaa", sum := "8b59c9e81c49c3fd381da721b5a78c489c86eb3b8957e9776cab5543a61a55b4", func := "loop.example/g01042/laws.FnDried", spec := "fnDried", inPlace := ["internal/bytealg.IndexByteString"], unfollowed := true, recurses := true, apart := false, narrowed := true }
def FnDriedUptoSaid : Prop := fnDriedUptoRow.holds Try.pinned (OpenSpec.upto fnDriedSpec)

end Rows
end Go.Proofs.Ytikfnfpohopklaa
