/-
  DERIVED. GIVEN WITH THE SEED: THE CARDS: each row of YtmapjepdcbpalaaDoorRows.lean that lists a variable, with what it lists TIED to the program's text (the seventh form; the later family's looks); each row that meets fmt, with fmt's text TOLD by the authors' own Lean function (tested against real Go, not proved from fmt's source: count such statements apart). THE CARD IS WHAT COUNTS. Prove the row's statement (the work); the ties are given (YtmapjepdcbpalaaDoorTie.lean); close each card by the builder's one call (the guide's Derived/Test/ToyasCard.lean, 'card_holds'). Laid BY PROGRAM, IN A SANDBOX (cutbox-door.mjs). By AI agents, Wed Nov 11 2026. No macro, syntax, notation, axiom, sorry.
-/
import Derived.Test.YtmapjepdcbpalaaDoorRows
import GoSem.ClaimSeven
namespace Go.Proofs.YtmapjepdcbpalaaDoor
namespace Rows

/-- THE TIED CARD OF 'laws.FnExactCauseText'. -/
def fnExactCauseTextCard : Claim7 := { stood := { row := fnExactCauseTextRow, standIns := [], harness := (true, "e6f5769a32a341733bad631de4c0ad16553cd134d5b01014fec9f7bec84b1022"), looks := true }, kinds := [], alts := [], laidByText := true, laidKinds := [.data, .data, .data, .widerDeep], laidTests := true, laidLooks := .later }
def FnExactCauseTextCardSaid : Prop := Claim7.holds Tryd.pinned (.plain (OpenSpec.ofChange fnExactCauseTextSpec)) fnExactCauseTextCard

/-- THE TIED CARD OF 'laws.FnExactReadCause'. -/
def fnExactReadCauseCard : Claim7 := { stood := { row := fnExactReadCauseRow, standIns := [], harness := (true, "e6f5769a32a341733bad631de4c0ad16553cd134d5b01014fec9f7bec84b1022"), looks := true }, kinds := [], alts := [], laidByText := true, laidKinds := [.data, .data, .data, .sentinel, .sentinel, .widerDeep], laidTests := true, laidLooks := .later }
def FnExactReadCauseCardSaid : Prop := Claim7.holds Tryd.pinned (.plain (OpenSpec.ofChange fnExactReadCauseSpec)) fnExactReadCauseCard

/-- THE SECOND FORM's CARD OF 'laws.FnExactCauseText'. -/
def fnExactCauseTextUptoCard : Claim7 := { stood := { row := fnExactCauseTextUptoRow, standIns := [], harness := (true, "e6f5769a32a341733bad631de4c0ad16553cd134d5b01014fec9f7bec84b1022"), looks := true }, kinds := [], alts := [], laidByText := true, laidKinds := [.data, .data, .data, .widerDeep], laidTests := true, laidLooks := .later }
def FnExactCauseTextUptoCardSaid : Prop := Claim7.holds Tryd.pinned (.plain (OpenSpec.upto fnExactCauseTextSpec)) fnExactCauseTextUptoCard

/-- THE SECOND FORM's CARD OF 'laws.FnExactReadCause'. -/
def fnExactReadCauseUptoCard : Claim7 := { stood := { row := fnExactReadCauseUptoRow, standIns := [], harness := (true, "e6f5769a32a341733bad631de4c0ad16553cd134d5b01014fec9f7bec84b1022"), looks := true }, kinds := [], alts := [], laidByText := true, laidKinds := [.data, .data, .data, .sentinel, .sentinel, .widerDeep], laidTests := true, laidLooks := .later }
def FnExactReadCauseUptoCardSaid : Prop := Claim7.holds Tryd.pinned (.plain (OpenSpec.upto fnExactReadCauseSpec)) fnExactReadCauseUptoCard
end Rows
end Go.Proofs.YtmapjepdcbpalaaDoor
