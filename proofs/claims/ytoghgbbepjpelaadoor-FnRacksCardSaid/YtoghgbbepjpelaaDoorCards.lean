/-
  DERIVED. GIVEN WITH THE SEED: THE CARDS: each row of YtoghgbbepjpelaaDoorRows.lean that lists a variable, with what it lists TIED to the program's text (the seventh form; the later family's looks); each row that meets fmt, with fmt's text TOLD by the authors' own Lean function (tested against real Go, not proved from fmt's source: count such statements apart). THE CARD IS WHAT COUNTS. Prove the row's statement (the work); the ties are given (YtoghgbbepjpelaaDoorTie.lean); close each card by the builder's one call (the guide's Derived/Test/ToyasCard.lean, 'card_holds'). Laid BY PROGRAM, IN A SANDBOX (cutbox-door.mjs). By AI agents, Wed Nov 11 2026. No macro, syntax, notation, axiom, sorry.
-/
import Derived.Test.YtoghgbbepjpelaaDoorRows
import GoSem.ClaimSeven
namespace Go.Proofs.YtoghgbbepjpelaaDoor
namespace Rows

/-- THE TIED CARD OF 'laws.FnExactHeatRulesText'. -/
def fnExactHeatRulesTextCard : Claim7 := { stood := { row := fnExactHeatRulesTextRow, standIns := [], harness := (true, "6fefdb854cf953304e22a4170f8f37b4006a5528adb373765756fd2a77423bec"), looks := true }, kinds := [], alts := [], laidByText := true, laidKinds := [.data, .data, .data], laidTests := true, laidLooks := .later }
def FnExactHeatRulesTextCardSaid : Prop := Claim7.holds Tryd.pinned (.plain (OpenSpec.ofChange fnExactHeatRulesTextSpec)) fnExactHeatRulesTextCard

/-- THE TIED CARD OF 'laws.FnRacks'. -/
def fnRacksCard : Claim7 := { stood := { row := fnRacksRow, standIns := [], harness := (true, "6fefdb854cf953304e22a4170f8f37b4006a5528adb373765756fd2a77423bec"), looks := true }, kinds := [], alts := [], laidByText := true, laidKinds := [.data, .data, .data], laidTests := true, laidLooks := .later }
def FnRacksCardSaid : Prop := Claim7.holds Tryd.pinned (.plain (OpenSpec.ofChange fnRacksSpec)) fnRacksCard

/-- THE TIED CARD OF 'laws.FnExactReadHeatRules'. -/
def fnExactReadHeatRulesCard : Claim7 := { stood := { row := fnExactReadHeatRulesRow, standIns := [], harness := (true, "6fefdb854cf953304e22a4170f8f37b4006a5528adb373765756fd2a77423bec"), looks := true }, kinds := [], alts := [], laidByText := true, laidKinds := [.data, .data, .data, .data, .sentinel, .sentinel, .pinned], laidTests := true, laidLooks := .later }
def FnExactReadHeatRulesCardSaid : Prop := Claim7.holds Tryd.pinned (.plain (OpenSpec.ofChange fnExactReadHeatRulesSpec)) fnExactReadHeatRulesCard

/-- THE SECOND FORM's CARD OF 'laws.FnExactHeatRulesText'. -/
def fnExactHeatRulesTextUptoCard : Claim7 := { stood := { row := fnExactHeatRulesTextUptoRow, standIns := [], harness := (true, "6fefdb854cf953304e22a4170f8f37b4006a5528adb373765756fd2a77423bec"), looks := true }, kinds := [], alts := [], laidByText := true, laidKinds := [.data, .data, .data], laidTests := true, laidLooks := .later }
def FnExactHeatRulesTextUptoCardSaid : Prop := Claim7.holds Tryd.pinned (.plain (OpenSpec.upto fnExactHeatRulesTextSpec)) fnExactHeatRulesTextUptoCard

/-- THE SECOND FORM's CARD OF 'laws.FnRacks'. -/
def fnRacksUptoCard : Claim7 := { stood := { row := fnRacksUptoRow, standIns := [], harness := (true, "6fefdb854cf953304e22a4170f8f37b4006a5528adb373765756fd2a77423bec"), looks := true }, kinds := [], alts := [], laidByText := true, laidKinds := [.data, .data, .data], laidTests := true, laidLooks := .later }
def FnRacksUptoCardSaid : Prop := Claim7.holds Tryd.pinned (.plain (OpenSpec.upto fnRacksSpec)) fnRacksUptoCard

/-- THE SECOND FORM's CARD OF 'laws.FnExactReadHeatRules'. -/
def fnExactReadHeatRulesUptoCard : Claim7 := { stood := { row := fnExactReadHeatRulesUptoRow, standIns := [], harness := (true, "6fefdb854cf953304e22a4170f8f37b4006a5528adb373765756fd2a77423bec"), looks := true }, kinds := [], alts := [], laidByText := true, laidKinds := [.data, .data, .data, .data, .sentinel, .sentinel, .pinned], laidTests := true, laidLooks := .later }
def FnExactReadHeatRulesUptoCardSaid : Prop := Claim7.holds Tryd.pinned (.plain (OpenSpec.upto fnExactReadHeatRulesSpec)) fnExactReadHeatRulesUptoCard
end Rows
end Go.Proofs.YtoghgbbepjpelaaDoor
