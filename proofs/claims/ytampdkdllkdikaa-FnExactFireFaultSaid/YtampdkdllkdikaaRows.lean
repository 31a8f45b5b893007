/-
  No cell of these rows narrows 'for every input' (looked for: loops, veiled, ifaces, maps, wideKeys, modest, calm, conditions, laid).
  DERIVED. THE GIVEN ROWS OF THIS SEAT. 11 by the template 'for every input the law returns true; each argument reads behind the call as it read before'; 0 by the template 'total and deterministic' (their statements: YtampdkdllkdikaaTotals.lean).
  GIVEN WITH THE SEED: the statements are not yours to turn. If you find one false, say at which input.
  Laid BY PROGRAM, IN A SANDBOX (cutbox-rows.mjs): the forced cells as the released guide's own fill.sh prints them over the translation 6664f6d2bbb77fa5… (all of the seat's roots in one cut). By AI agents, Wed Nov 11 2026. No macro, syntax, notation, axiom, sorry.
-/
import Derived.Test.YtampdkdllkdikaaChecked
import GoSem.Claim
import GoSem.ClaimJoined
import GoSem.ClaimMapViews
import Derived.JoinedTies
import Derived.KernelRfl
namespace Go.Proofs.Ytampdkdllkdikaa
/- THE CELL 'sum', in the pinned program and in every row, IS THE sha256 OF THE DUMP (.gsa) THAT YtampdkdllkdikaaProg.lean LOADS. Nothing in Lean hashes anything: it is a label: what it is worth is what the hold of that sum in a sandbox is worth. -/
noncomputable def Try.pinned : Pinned := { name := "ytampdkdllkdikaa", sum := "6664f6d2bbb77fa5db59dc5586f61efaf451ca156f8e92b28154f469e7665dda", checked := Try.checked }
namespace Rows
def none {H : Type} : Left H := { results := [], args := [] }

/-- 'laws.FnExactValidHeatRules': WHATEVER THE INPUT: true; the input reads as it did. -/
def fnExactValidHeatRulesSpec : ChangeSpec := { name := "fnExactValidHeatRules", fn := fun _ => fun
  | [d] => { results := [.lit (.bool true)], args := [d] }
  | _ => none }
def fnExactValidHeatRulesRow : OpenClaim := { program := "ytampdkdllkdikaa", sum := "6664f6d2bbb77fa5db59dc5586f61efaf451ca156f8e92b28154f469e7665dda", func := "loop.example/g01042/laws.FnExactValidHeatRules", spec := "fnExactValidHeatRules", apart := false }
def FnExactValidHeatRulesSaid : Prop := fnExactValidHeatRulesRow.holds Try.pinned (OpenSpec.ofChange fnExactValidHeatRulesSpec)

/-- ITS FALSE NEIGHBOUR: 'it returns false'. Refute it at one input. -/
def fnExactValidHeatRulesWrong : ChangeSpec := { name := "fnExactValidHeatRules", fn := fun _ => fun
  | [d] => { results := [.lit (.bool false)], args := [d] }
  | _ => none }
def FnExactValidHeatRulesWrongFalsely : Prop := fnExactValidHeatRulesRow.holds Try.pinned (OpenSpec.ofChange fnExactValidHeatRulesWrong)

/-- 'laws.FnExactSameHeatRules': WHATEVER THE INPUT: true; the input reads as it did. -/
def fnExactSameHeatRulesSpec : ChangeSpec := { name := "fnExactSameHeatRules", fn := fun _ => fun
  | [d1, d2] => { results := [.lit (.bool true)], args := [d1, d2] }
  | _ => none }
def fnExactSameHeatRulesRow : OpenClaim := { program := "ytampdkdllkdikaa", sum := "6664f6d2bbb77fa5db59dc5586f61efaf451ca156f8e92b28154f469e7665dda", func := "loop.example/g01042/laws.FnExactSameHeatRules", spec := "fnExactSameHeatRules", apart := false }
def FnExactSameHeatRulesSaid : Prop := fnExactSameHeatRulesRow.holds Try.pinned (OpenSpec.ofChange fnExactSameHeatRulesSpec)

/-- ITS FALSE NEIGHBOUR: 'it returns false'. Refute it at one input. -/
def fnExactSameHeatRulesWrong : ChangeSpec := { name := "fnExactSameHeatRules", fn := fun _ => fun
  | [d1, d2] => { results := [.lit (.bool false)], args := [d1, d2] }
  | _ => none }
def FnExactSameHeatRulesWrongFalsely : Prop := fnExactSameHeatRulesRow.holds Try.pinned (OpenSpec.ofChange fnExactSameHeatRulesWrong)

/-- 'laws.FnExactCoolingFault': WHATEVER THE INPUT: true; the input reads as it did. -/
def fnExactCoolingFaultSpec : ChangeSpec := { name := "fnExactCoolingFault", fn := fun _ => fun
  | [d1, d2] => { results := [.lit (.bool true)], args := [d1, d2] }
  | _ => none }
def fnExactCoolingFaultRow : OpenClaim := { program := "ytampdkdllkdikaa", sum := "6664f6d2bbb77fa5db59dc5586f61efaf451ca156f8e92b28154f469e7665dda", func := "loop.example/g01042/laws.FnExactCoolingFault", spec := "fnExactCoolingFault", unfollowed := true, recurses := true, apart := false }
def FnExactCoolingFaultSaid : Prop := fnExactCoolingFaultRow.holds Try.pinned (OpenSpec.ofChange fnExactCoolingFaultSpec)

/-- ITS FALSE NEIGHBOUR: 'it returns false'. Refute it at one input. -/
def fnExactCoolingFaultWrong : ChangeSpec := { name := "fnExactCoolingFault", fn := fun _ => fun
  | [d1, d2] => { results := [.lit (.bool false)], args := [d1, d2] }
  | _ => none }
def FnExactCoolingFaultWrongFalsely : Prop := fnExactCoolingFaultRow.holds Try.pinned (OpenSpec.ofChange fnExactCoolingFaultWrong)

/-- 'laws.FnExactHoursAbove': WHATEVER THE INPUT: true; the input reads as it did. -/
def fnExactHoursAboveSpec : ChangeSpec := { name := "fnExactHoursAbove", fn := fun _ => fun
  | [d1, d2] => { results := [.lit (.bool true)], args := [d1, d2] }
  | _ => none }
def fnExactHoursAboveRow : OpenClaim := { program := "ytampdkdllkdikaa", sum := "6664f6d2bbb77fa5db59dc5586f61efaf451ca156f8e92b28154f469e7665dda", func := "loop.example/g01042/laws.FnExactHoursAbove", spec := "fnExactHoursAbove", unfollowed := true, recurses := true, apart := false }
def FnExactHoursAboveSaid : Prop := fnExactHoursAboveRow.holds Try.pinned (OpenSpec.ofChange fnExactHoursAboveSpec)

/-- ITS FALSE NEIGHBOUR: 'it returns false'. Refute it at one input. -/
def fnExactHoursAboveWrong : ChangeSpec := { name := "fnExactHoursAbove", fn := fun _ => fun
  | [d1, d2] => { results := [.lit (.bool false)], args := [d1, d2] }
  | _ => none }
def FnExactHoursAboveWrongFalsely : Prop := fnExactHoursAboveRow.holds Try.pinned (OpenSpec.ofChange fnExactHoursAboveWrong)

/-- 'laws.FnExactHeatWork': WHATEVER THE INPUT: true; the input reads as it did. -/
def fnExactHeatWorkSpec : ChangeSpec := { name := "fnExactHeatWork", fn := fun _ => fun
  | [d1, d2] => { results := [.lit (.bool true)], args := [d1, d2] }
  | _ => none }
def fnExactHeatWorkRow : OpenClaim := { program := "ytampdkdllkdikaa", sum := "6664f6d2bbb77fa5db59dc5586f61efaf451ca156f8e92b28154f469e7665dda", func := "loop.example/g01042/laws.FnExactHeatWork", spec := "fnExactHeatWork", unfollowed := true, recurses := true, apart := false }
def FnExactHeatWorkSaid : Prop := fnExactHeatWorkRow.holds Try.pinned (OpenSpec.ofChange fnExactHeatWorkSpec)

/-- ITS FALSE NEIGHBOUR: 'it returns false'. Refute it at one input. -/
def fnExactHeatWorkWrong : ChangeSpec := { name := "fnExactHeatWork", fn := fun _ => fun
  | [d1, d2] => { results := [.lit (.bool false)], args := [d1, d2] }
  | _ => none }
def FnExactHeatWorkWrongFalsely : Prop := fnExactHeatWorkRow.holds Try.pinned (OpenSpec.ofChange fnExactHeatWorkWrong)

/-- 'laws.FnExactFuelFor': WHATEVER THE INPUT: true; the input reads as it did. -/
def fnExactFuelForSpec : ChangeSpec := { name := "fnExactFuelFor", fn := fun _ => fun
  | [d1, d2] => { results := [.lit (.bool true)], args := [d1, d2] }
  | _ => none }
def fnExactFuelForRow : OpenClaim := { program := "ytampdkdllkdikaa", sum := "6664f6d2bbb77fa5db59dc5586f61efaf451ca156f8e92b28154f469e7665dda", func := "loop.example/g01042/laws.FnExactFuelFor", spec := "fnExactFuelFor", unfollowed := true, recurses := true, apart := false }
def FnExactFuelForSaid : Prop := fnExactFuelForRow.holds Try.pinned (OpenSpec.ofChange fnExactFuelForSpec)

/-- ITS FALSE NEIGHBOUR: 'it returns false'. Refute it at one input. -/
def fnExactFuelForWrong : ChangeSpec := { name := "fnExactFuelFor", fn := fun _ => fun
  | [d1, d2] => { results := [.lit (.bool false)], args := [d1, d2] }
  | _ => none }
def FnExactFuelForWrongFalsely : Prop := fnExactFuelForRow.holds Try.pinned (OpenSpec.ofChange fnExactFuelForWrong)

/-- 'laws.FnExactHottestHour': WHATEVER THE INPUT: true; the input reads as it did. -/
def fnExactHottestHourSpec : ChangeSpec := { name := "fnExactHottestHour", fn := fun _ => fun
  | [d] => { results := [.lit (.bool true)], args := [d] }
  | _ => none }
def fnExactHottestHourRow : OpenClaim := { program := "ytampdkdllkdikaa", sum := "6664f6d2bbb77fa5db59dc5586f61efaf451ca156f8e92b28154f469e7665dda", func := "loop.example/g01042/laws.FnExactHottestHour", spec := "fnExactHottestHour", unfollowed := true, recurses := true, apart := false }
def FnExactHottestHourSaid : Prop := fnExactHottestHourRow.holds Try.pinned (OpenSpec.ofChange fnExactHottestHourSpec)

/-- ITS FALSE NEIGHBOUR: 'it returns false'. Refute it at one input. -/
def fnExactHottestHourWrong : ChangeSpec := { name := "fnExactHottestHour", fn := fun _ => fun
  | [d] => { results := [.lit (.bool false)], args := [d] }
  | _ => none }
def FnExactHottestHourWrongFalsely : Prop := fnExactHottestHourRow.holds Try.pinned (OpenSpec.ofChange fnExactHottestHourWrong)

/-- 'laws.FnExactLeastFireHours': WHATEVER THE INPUT: true; the input reads as it did. -/
def fnExactLeastFireHoursSpec : ChangeSpec := { name := "fnExactLeastFireHours", fn := fun _ => fun
  | [d1, d2] => { results := [.lit (.bool true)], args := [d1, d2] }
  | _ => none }
def fnExactLeastFireHoursRow : OpenClaim := { program := "ytampdkdllkdikaa", sum := "6664f6d2bbb77fa5db59dc5586f61efaf451ca156f8e92b28154f469e7665dda", func := "loop.example/g01042/laws.FnExactLeastFireHours", spec := "fnExactLeastFireHours", apart := false }
def FnExactLeastFireHoursSaid : Prop := fnExactLeastFireHoursRow.holds Try.pinned (OpenSpec.ofChange fnExactLeastFireHoursSpec)

/-- ITS FALSE NEIGHBOUR: 'it returns false'. Refute it at one input. -/
def fnExactLeastFireHoursWrong : ChangeSpec := { name := "fnExactLeastFireHours", fn := fun _ => fun
  | [d1, d2] => { results := [.lit (.bool false)], args := [d1, d2] }
  | _ => none }
def FnExactLeastFireHoursWrongFalsely : Prop := fnExactLeastFireHoursRow.holds Try.pinned (OpenSpec.ofChange fnExactLeastFireHoursWrong)

/-- 'laws.FnExactFastestFire': WHATEVER THE INPUT: true; the input reads as it did. -/
def fnExactFastestFireSpec : ChangeSpec := { name := "fnExactFastestFire", fn := fun _ => fun
  | [d1, d2] => { results := [.lit (.bool true)], args := [d1, d2] }
  | _ => none }
def fnExactFastestFireRow : OpenClaim := { program := "ytampdkdllkdikaa", sum := "6664f6d2bbb77fa5db59dc5586f61efaf451ca156f8e92b28154f469e7665dda", func := "loop.example/g01042/laws.FnExactFastestFire", spec := "fnExactFastestFire", apart := false }
def FnExactFastestFireSaid : Prop := fnExactFastestFireRow.holds Try.pinned (OpenSpec.ofChange fnExactFastestFireSpec)

/-- ITS FALSE NEIGHBOUR: 'it returns false'. Refute it at one input. -/
def fnExactFastestFireWrong : ChangeSpec := { name := "fnExactFastestFire", fn := fun _ => fun
  | [d1, d2] => { results := [.lit (.bool false)], args := [d1, d2] }
  | _ => none }
def FnExactFastestFireWrongFalsely : Prop := fnExactFastestFireRow.holds Try.pinned (OpenSpec.ofChange fnExactFastestFireWrong)

/-- 'laws.FnExactFireFault': WHATEVER THE INPUT: true; the input reads as it did. -/
def fnExactFireFaultSpec : ChangeSpec := { name := "fnExactFireFault", fn := fun _ => fun
  | [d1, d2] => { results := [.lit (.bool true)], args := [d1, d2] }
  | _ => none }
def fnExactFireFaultRow : OpenClaim := { program := "ytampdkdllkdikaa", sum := "6664f6d2bbb77fa5db59dc5586f61efaf451ca156f8e92b28154f469e7665dda", func := "loop.example/g01042/laws.FnExactFireFault", spec := "fnExactFireFault", unfollowed := true, recurses := true, apart := false }
def FnExactFireFaultSaid : Prop := fnExactFireFaultRow.holds Try.pinned (OpenSpec.ofChange fnExactFireFaultSpec)

/-- ITS FALSE NEIGHBOUR: 'it returns false'. Refute it at one input. -/
def fnExactFireFaultWrong : ChangeSpec := { name := "fnExactFireFault", fn := fun _ => fun
  | [d1, d2] => { results := [.lit (.bool false)], args := [d1, d2] }
  | _ => none }
def FnExactFireFaultWrongFalsely : Prop := fnExactFireFaultRow.holds Try.pinned (OpenSpec.ofChange fnExactFireFaultWrong)

/-- 'laws.FnHeat': WHATEVER THE INPUT: true; the input reads as it did. -/
def fnHeatSpec : ChangeSpec := { name := "fnHeat", fn := fun _ => fun
  | [d] => { results := [.lit (.bool true)], args := [d] }
  | _ => none }
def fnHeatRow : OpenClaim := { program := "ytampdkdllkdikaa", sum := "6664f6d2bbb77fa5db59dc5586f61efaf451ca156f8e92b28154f469e7665dda", func := "loop.example/g01042/laws.FnHeat", spec := "fnHeat", unfollowed := true, recurses := true, apart := false }
def FnHeatSaid : Prop := fnHeatRow.holds Try.pinned (OpenSpec.ofChange fnHeatSpec)

/-- ITS FALSE NEIGHBOUR: 'it returns false'. Refute it at one input. -/
def fnHeatWrong : ChangeSpec := { name := "fnHeat", fn := fun _ => fun
  | [d] => { results := [.lit (.bool false)], args := [d] }
  | _ => none }
def FnHeatWrongFalsely : Prop := fnHeatRow.holds Try.pinned (OpenSpec.ofChange fnHeatWrong)

/- THE SECOND FORM. 'bulk': how many values and letters a reading holds, each counted each time it is reached (what is shared counts as often as it is met; a slice's spare places count too). A statement '..UptoSaid' is the law's where the arguments, and the package variables that the reading takes, are together of bulk at most 1048576: NARROWER than '..Said'. Prove '..Said' where nothing that the law and all that it calls make is longer than what came in: it says more and counts as full. Else prove '..UptoSaid'. A law counts once. -/
mutual
def uptoBulk {H : Type} : DataW H → Nat
  | .lit (.string bytes) => bytes.length + 1
  | .lit _ => 1
  | .nil => 1
  | .ptr d => uptoBulk d + 1
  | .slice elems spare => uptoBulkAll elems + uptoBulkAll spare + 1
  | .agg parts => uptoBulkAll parts + 1
  | .iface _ d => uptoBulk d + 1
  | .map entries => uptoBulkEntries entries + 1
  | .held _ => 1
def uptoBulkAll {H : Type} : List (DataW H) → Nat
  | [] => 0
  | d :: r => uptoBulk d + uptoBulkAll r
def uptoBulkEntries {H : Type} : List (Lit × DataW H) → Nat
  | [] => 0
  | x :: r => uptoBulkEntry x + uptoBulkEntries r
def uptoBulkEntry {H : Type} : Lit × DataW H → Nat
  | (.string bytes, d) => bytes.length + uptoBulk d + 1
  | (_, d) => uptoBulk d + 1
 end
def uptoSmall : (H : Type) → List (DataW H) → Bool := fun _ ds => decide (uptoBulkAll ds ≤ 1048576)
def OpenSpec.upto (s : _root_.Go.ChangeSpec) : _root_.Go.OpenSpec := { _root_.Go.OpenSpec.ofChange s with cond := some uptoSmall }

/-- 'laws.FnExactValidHeatRules', WHERE WHAT IT READS IS OF BULK AT MOST 1048576: true; the input reads as it did. -/
def fnExactValidHeatRulesUptoRow : OpenClaim := { program := "ytampdkdllkdikaa", sum := "6664f6d2bbb77fa5db59dc5586f61efaf451ca156f8e92b28154f469e7665dda", func := "loop.example/g01042/laws.FnExactValidHeatRules", spec := "fnExactValidHeatRules", apart := false, narrowed := true }
def FnExactValidHeatRulesUptoSaid : Prop := fnExactValidHeatRulesUptoRow.holds Try.pinned (OpenSpec.upto fnExactValidHeatRulesSpec)

/-- 'laws.FnExactSameHeatRules', WHERE WHAT IT READS IS OF BULK AT MOST 1048576: true; the input reads as it did. -/
def fnExactSameHeatRulesUptoRow : OpenClaim := { program := "ytampdkdllkdikaa", sum := "6664f6d2bbb77fa5db59dc5586f61efaf451ca156f8e92b28154f469e7665dda", func := "loop.example/g01042/laws.FnExactSameHeatRules", spec := "fnExactSameHeatRules", apart := false, narrowed := true }
def FnExactSameHeatRulesUptoSaid : Prop := fnExactSameHeatRulesUptoRow.holds Try.pinned (OpenSpec.upto fnExactSameHeatRulesSpec)

/-- 'laws.FnExactCoolingFault', WHERE WHAT IT READS IS OF BULK AT MOST 1048576: true; the input reads as it did. -/
def fnExactCoolingFaultUptoRow : OpenClaim := { program := "ytampdkdllkdikaa", sum := "6664f6d2bbb77fa5db59dc5586f61efaf451ca156f8e92b28154f469e7665dda", func := "loop.example/g01042/laws.FnExactCoolingFault", spec := "fnExactCoolingFault", unfollowed := true, recurses := true, apart := false, narrowed := true }
def FnExactCoolingFaultUptoSaid : Prop := fnExactCoolingFaultUptoRow.holds Try.pinned (OpenSpec.upto fnExactCoolingFaultSpec)

/-- 'laws.FnExactHoursAbove', WHERE WHAT IT READS IS OF BULK AT MOST 1048576: true; the input reads as it did. -/
def fnExactHoursAboveUptoRow : OpenClaim := { program := "ytampdkdllkdikaa", sum := "6664f6d2bbb77fa5db59dc5586f61efaf451ca156f8e92b28154f469e7665dda", func := "loop.example/g01042/laws.FnExactHoursAbove", spec := "fnExactHoursAbove", unfollowed := true, recurses := true, apart := false, narrowed := true }
def FnExactHoursAboveUptoSaid : Prop := fnExactHoursAboveUptoRow.holds Try.pinned (OpenSpec.upto fnExactHoursAboveSpec)

/-- 'laws.FnExactHeatWork', WHERE WHAT IT READS IS OF BULK AT MOST 1048576: true; the input reads as it did. -/
def fnExactHeatWorkUptoRow : OpenClaim := { program := "ytampdkdllkdikaa", sum := "6664f6d2bbb77fa5db59dc5586f61efaf451ca156f8e92b28154f469e7665dda", func := "loop.example/g01042/laws.FnExactHeatWork", spec := "fnExactHeatWork", unfollowed := true, recurses := true, apart := false, narrowed := true }
def FnExactHeatWorkUptoSaid : Prop := fnExactHeatWorkUptoRow.holds Try.pinned (OpenSpec.upto fnExactHeatWorkSpec)

/-- 'laws.FnExactFuelFor', WHERE WHAT IT READS IS OF BULK AT MOST 1048576: true; the input reads as it did. -/
def fnExactFuelForUptoRow : OpenClaim := { program := "ytampdkdllkdikaa", sum := "6664f6d2bbb77fa5db59dc5586f61efaf451ca156f8e92b28154f469e7665dda", func := "loop.example/g01042/laws.FnExactFuelFor", spec := "fnExactFuelFor", unfollowed := true, recurses := true, apart := false, narrowed := true }
def FnExactFuelForUptoSaid : Prop := fnExactFuelForUptoRow.holds Try.pinned (OpenSpec.upto fnExactFuelForSpec)

/-- 'laws.FnExactHottestHour', WHERE WHAT IT READS IS OF BULK AT MOST 1048576: true; the input reads as it did. -/
def fnExactHottestHourUptoRow : OpenClaim := { program := "ytampdkdllkdikaa", sum := "6664f6d2bbb77fa5db59dc5586f61efaf451ca156f8e92b28154f469e7665dda", func := "loop.example/g01042/laws.FnExactHottestHour", spec := "fnExactHottestHour", unfollowed := true, recurses := true, apart := false, narrowed := true }
def FnExactHottestHourUptoSaid : Prop := fnExactHottestHourUptoRow.holds Try.pinned (OpenSpec.upto fnExactHottestHourSpec)

/-- 'laws.FnExactLeastFireHours', WHERE WHAT IT READS IS OF BULK AT MOST 1048576: true; the input reads as it did. -/
def fnExactLeastFireHoursUptoRow : OpenClaim := { program := "ytampdkdllkdikaa", sum := "6664f6d2bbb77fa5db59dc5586f61efaf451ca156f8e92b28154f469e7665dda", func := "loop.example/g01042/laws.FnExactLeastFireHours", spec := "fnExactLeastFireHours", apart := false, narrowed := true }
def FnExactLeastFireHoursUptoSaid : Prop := fnExactLeastFireHoursUptoRow.holds Try.pinned (OpenSpec.upto fnExactLeastFireHoursSpec)

/-- 'laws.FnExactFastestFire', WHERE WHAT IT READS IS OF BULK AT MOST 1048576: true; the input reads as it did. -/
def fnExactFastestFireUptoRow : OpenClaim := { program := "ytampdkdllkdikaa", sum := "6664f6d2bbb77fa5db59dc5586f61efaf451ca156f8e92b28154f469e7665dda", func := "loop.example/g01042/laws.FnExactFastestFire", spec := "fnExactFastestFire", apart := false, narrowed := true }
def FnExactFastestFireUptoSaid : Prop := fnExactFastestFireUptoRow.holds Try.pinned (OpenSpec.upto fnExactFastestFireSpec)

/-- 'laws.FnExactFireFault', WHERE WHAT IT READS IS OF BULK AT MOST 1048576: true; the input reads as it did. -/
def fnExactFireFaultUptoRow : OpenClaim := { program := "ytampdkdllkdikaa", sum := "6664f6d2bbb77fa5db59dc5586f61efaf451ca156f8e92b28154f469e7665dda", func := "loop.example/g01042/laws.FnExactFireFault", spec := "fnExactFireFault", unfollowed := true, recurses := true, apart := false, narrowed := true }
def FnExactFireFaultUptoSaid : Prop := fnExactFireFaultUptoRow.holds Try.pinned (OpenSpec.upto fnExactFireFaultSpec)

/-- 'laws.FnHeat', WHERE WHAT IT READS IS OF BULK AT MOST 1048576: true; the input reads as it did. -/
def fnHeatUptoRow : OpenClaim := { program := "ytampdkdllkdikaa", sum := "6664f6d2bbb77fa5db59dc5586f61efaf451ca156f8e92b28154f469e7665dda", func := "loop.example/g01042/laws.FnHeat", spec := "fnHeat", unfollowed := true, recurses := true, apart := false, narrowed := true }
def FnHeatUptoSaid : Prop := fnHeatUptoRow.holds Try.pinned (OpenSpec.upto fnHeatSpec)

end Rows
end Go.Proofs.Ytampdkdllkdikaa
