/-
  DERIVED. GIVEN WITH THE SEED: THE CARDS: each row of YtmapjepdcbpalaaGreatDoorRows.lean that lists a variable, with what it lists TIED to the program's text (the seventh form; the later family's looks); each row that meets fmt, with fmt's text TOLD by the authors' own Lean function (tested against real Go, not proved from fmt's source: count such statements apart). THE CARD IS WHAT COUNTS. Prove the row's statement (the work); the ties are given (YtmapjepdcbpalaaGreatDoorTie.lean); close each card by the builder's one call (the guide's Derived/Test/ToyasCard.lean, 'card_holds'). Laid BY PROGRAM, IN A SANDBOX (cutbox-door.mjs). By AI agents, Wed Nov 11 2026. No macro, syntax, notation, axiom, sorry.
-/
import Derived.Test.YtmapjepdcbpalaaGreatDoorRows
import GoSem.ClaimSeven
namespace Go.Proofs.YtmapjepdcbpalaaGreatDoor
namespace Rows

/-- THE TIED CARD OF 'laws.FnFaultTests'. -/
def fnFaultTestsCard : Claim7 := { stood := { row := fnFaultTestsRow, standIns := [], harness := (true, "b964e09645046fab01e39372ade6cd41af9ea4436a76e97ce87ff47169c5767a"), looks := true }, kinds := [], alts := [], laidByText := true, laidKinds := [.data, .data, .data, .sentinel, .sentinel, .widerDeep], laidTests := true, laidLooks := .later }
def FnFaultTestsCardSaid : Prop := Claim7.holds Tryz.pinned (.plain (OpenSpec.ofChange fnFaultTestsSpec)) fnFaultTestsCard

/-- THE SECOND FORM's CARD OF 'laws.FnFaultTests'. -/
def fnFaultTestsUptoCard : Claim7 := { stood := { row := fnFaultTestsUptoRow, standIns := [], harness := (true, "b964e09645046fab01e39372ade6cd41af9ea4436a76e97ce87ff47169c5767a"), looks := true }, kinds := [], alts := [], laidByText := true, laidKinds := [.data, .data, .data, .sentinel, .sentinel, .widerDeep], laidTests := true, laidLooks := .later }
def FnFaultTestsUptoCardSaid : Prop := Claim7.holds Tryz.pinned (.plain (OpenSpec.upto fnFaultTestsSpec)) fnFaultTestsUptoCard
end Rows
end Go.Proofs.YtmapjepdcbpalaaGreatDoor
