/-
  No cell of these rows narrows 'for every input' (looked for: loops, veiled, ifaces, maps, wideKeys, modest, calm, conditions, laid).
  DERIVED. THE GIVEN ROWS OF THIS SEAT. 3 by the template 'for every input the law returns true; each argument reads behind the call as it read before'; 0 by the template 'total and deterministic' (their statements: YtoghgbbepjpelaaTotals.lean).
  GIVEN WITH THE SEED: the statements are not yours to turn. If you find one false, say at which input.
  Laid BY PROGRAM, IN A SANDBOX (cutbox-rows.mjs): the forced cells as the released guide's own fill.sh prints them over the translation a242548aff11fa95… (all of the seat's roots in one cut). By AI agents, Wed Nov 11 2026. No macro, syntax, notation, axiom, sorry.
-/
import Derived.Test.YtoghgbbepjpelaaChecked
import GoSem.Claim
import GoSem.ClaimJoined
import GoSem.ClaimMapViews
import Derived.JoinedTies
import Derived.KernelRfl
namespace Go.Proofs.Ytoghgbbepjpelaa
/- THE CELL 'sum', in the pinned program and in every row, IS THE sha256 OF THE DUMP (.gsa) THAT YtoghgbbepjpelaaProg.lean LOADS. Nothing in Lean hashes anything: it is a label: what it is worth is what the hold of that sum in a sandbox is worth. -/
noncomputable def Try.pinned : Pinned := { name := "ytoghgbbepjpelaa", sum := "a242548aff11fa95bbeb2551276d8dcfdf7a55c1bbdbf6f96a5c10ce2ffe0eb3", checked := Try.checked }
namespace Rows
def none {H : Type} : Left H := { results := [], args := [] }

/-- 'laws.FnHeat': WHATEVER THE INPUT: true; the input reads as it did. -/
def fnHeatSpec : ChangeSpec := { name := "fnHeat", fn := fun _ => fun
  | [d] => { results := [.lit (.bool true)], args := [d] }
  | _ => none }
def fnHeatRow : OpenClaim := { program := "ytoghgbbepjpelaa", sum := "a242548aff11fa95bbeb2551276d8dcfdf7a55c1bbdbf6f96a5c10ce2ffe0eb3", func := "loop.example/g01042/laws.FnHeat", spec := "fnHeat", unfollowed := true, recurses := true, apart := false }
def FnHeatSaid : Prop := fnHeatRow.holds Try.pinned (OpenSpec.ofChange fnHeatSpec)

/-- ITS FALSE NEIGHBOUR: 'it returns false'. Refute it at one input. -/
def fnHeatWrong : ChangeSpec := { name := "fnHeat", fn := fun _ => fun
  | [d] => { results := [.lit (.bool false)], args := [d] }
  | _ => none }
def FnHeatWrongFalsely : Prop := fnHeatRow.holds Try.pinned (OpenSpec.ofChange fnHeatWrong)

/-- 'laws.FnTiles': WHATEVER THE INPUT: true; the input reads as it did. -/
def fnTilesSpec : ChangeSpec := { name := "fnTiles", fn := fun _ => fun
  | [d1, d2] => { results := [.lit (.bool true)], args := [d1, d2] }
  | _ => none }
def fnTilesRow : OpenClaim := { program := "ytoghgbbepjpelaa", sum := "a242548aff11fa95bbeb2551276d8dcfdf7a55c1bbdbf6f96a5c10ce2ffe0eb3", func := "loop.example/g01042/laws.FnTiles", spec := "fnTiles", inPlace := ["internal/bytealg.IndexByteString", "internal/abi.NoEscape", "internal/bytealg.MakeNoZero"], unfollowed := true, recurses := true, apart := false }
def FnTilesSaid : Prop := fnTilesRow.holds Try.pinned (OpenSpec.ofChange fnTilesSpec)

/-- ITS FALSE NEIGHBOUR: 'it returns false'. Refute it at one input. -/
def fnTilesWrong : ChangeSpec := { name := "fnTiles", fn := fun _ => fun
  | [d1, d2] => { results := [.lit (.bool false)], args := [d1, d2] }
  | _ => none }
def FnTilesWrongFalsely : Prop := fnTilesRow.holds Try.pinned (OpenSpec.ofChange fnTilesWrong)

/-- 'laws.FnDried': WHATEVER THE INPUT: true; the input reads as it did. -/
def fnDriedSpec : ChangeSpec := { name := "fnDried", fn := fun _ => fun
  | [d] => { results := [.lit (.bool true)], args := [d] }
  | _ => none }
def fnDriedRow : OpenClaim := { program := "ytoghgbbepjpelaa", sum := "a242548aff11fa95bbeb2551276d8dcfdf7a55c1bbdbf6f96a5c10ce2ffe0eb3", func := "loop.example/g01042/laws.FnDried", spec := "fnDried", inPlace := ["internal/bytealg.IndexByteString"], unfollowed := true, recurses := true, apart := false }
def FnDriedSaid : Prop := fnDriedRow.holds Try.pinned (OpenSpec.ofChange fnDriedSpec)

/-- ITS FALSE NEIGHBOUR: 'it returns false'. Refute it at one input. -/
def fnDriedWrong : ChangeSpec := { name := "fnDried", fn := fun _ => fun
  | [d] => { results := [.lit (.bool false)], args := [d] }
  | _ => none }
def FnDriedWrongFalsely : Prop := fnDriedRow.holds Try.pinned (OpenSpec.ofChange fnDriedWrong)

/- THE SECOND FORM. 'bulk': how many values and letters a reading holds, each counted each time it is reached (what is shared counts as often as it is met; a slice's spare places count too). A statement '..UptoSaid' is the law's where the arguments, and the package variables that the reading takes, are together of bulk at most 1048576: NARROWER than '..Said'. Prove '..Said' where nothing that the law and all that it calls make is longer than what came in: it says more and counts as full. Else prove '..UptoSaid'. A law counts once. -/
mutual
def uptoBulk {H : Type} : DataW H → Nat
  | .lit (.string bytes) => bytes.length + 1
  | .lit _ => 1
  | .nil => 1
  | .ptr d => uptoBulk d + 1
  | .slice elems spare => uptoBulkAll elems + uptoBulkAll spare + 1
  | .agg parts => uptoBulkAll parts + 1
  | .iface _ d => uptoBulk d + 1
  | .map entries => uptoBulkEntries entries + 1
  | .held _ => 1
def uptoBulkAll {H : Type} : List (DataW H) → Nat
  | [] => 0
  | d :: r => uptoBulk d + uptoBulkAll r
def uptoBulkEntries {H : Type} : List (Lit × DataW H) → Nat
  | [] => 0
  | x :: r => uptoBulkEntry x + uptoBulkEntries r
def uptoBulkEntry {H : Type} : Lit × DataW H → Nat
  | (.string bytes, d) => bytes.length + uptoBulk d + 1
  | (_, d) => uptoBulk d + 1
 end
def uptoSmall : (H : Type) → List (DataW H) → Bool := fun _ ds => decide (uptoBulkAll ds ≤ 1048576)
def OpenSpec.upto (s : _root_.Go.ChangeSpec) : _root_.Go.OpenSpec := { _root_.Go.OpenSpec.ofChange s with cond := some uptoSmall }

/-- 'laws.FnHeat', WHERE WHAT IT READS IS OF BULK AT MOST 1048576: true; the input reads as it did. -/
def fnHeatUptoRow : OpenClaim := { program := "ytoghgbbepjpelaa", sum := "a242548aff11fa95bbeb2551276d8dcfdf7a55c1bbdbf6f96a5c10ce2ffe0eb3", func := "loop.example/g01042/laws.FnHeat", spec := "fnHeat", unfollowed := true, recurses := true, apart := false, narrowed := true }
def FnHeatUptoSaid : Prop := fnHeatUptoRow.holds Try.pinned (OpenSpec.upto fnHeatSpec)

/-- 'laws.FnTiles', WHERE WHAT IT READS IS OF BULK AT MOST 1048576: true; the input reads as it did. -/
def fnTilesUptoRow : OpenClaim := { program := "ytoghgbbepjpelaa", sum := "a242548aff11fa95bbeb2551276d8dcfdf7a55c1bbdbf6f96a5c10ce2ffe0eb3", func := "loop.example/g01042/laws.FnTiles", spec := "fnTiles", inPlace := ["internal/bytealg.IndexByteString", "internal/abi.NoEscape", "internal/bytealg.MakeNoZero"], unfollowed := true, recurses := true, apart := false, narrowed := true }
def FnTilesUptoSaid : Prop := fnTilesUptoRow.holds Try.pinned (OpenSpec.upto fnTilesSpec)

/-- 'laws.FnDried', WHERE WHAT IT READS IS OF BULK AT MOST 1048576: true; the input reads as it did. -/
def fnDriedUptoRow : OpenClaim := { program := "ytoghgbbepjpelaa", sum := "a242548aff11fa95bbeb2551276d8dcfdf7a55c1bbdbf6f96a5c10ce2ffe0eb3", func := "loop.example/g01042/laws.FnDried", spec := "fnDried", inPlace := ["internal/bytealg.IndexByteString"], unfollowed := true, recurses := true, apart := false, narrowed := true }
def FnDriedUptoSaid : Prop := fnDriedUptoRow.holds Try.pinned (OpenSpec.upto fnDriedSpec)

end Rows
end Go.Proofs.Ytoghgbbepjpelaa
