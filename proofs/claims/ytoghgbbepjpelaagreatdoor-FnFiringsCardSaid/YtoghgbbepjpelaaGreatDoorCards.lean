/-
  DERIVED. GIVEN WITH THE SEED: THE CARDS: each row of YtoghgbbepjpelaaGreatDoorRows.lean that lists a variable, with what it lists TIED to the program's text (the seventh form; the later family's looks); each row that meets fmt, with fmt's text TOLD by the authors' own Lean function (tested against real Go, not proved from fmt's source: count such statements apart). THE CARD IS WHAT COUNTS. Prove the row's statement (the work); the ties are given (YtoghgbbepjpelaaGreatDoorTie.lean); close each card by the builder's one call (the guide's Derived/Test/ToyasCard.lean, 'card_holds'). Laid BY PROGRAM, IN A SANDBOX (cutbox-door.mjs). By AI agents, Wed Nov 11 2026. No macro, syntax, notation, axiom, sorry.
-/
import Derived.Test.YtoghgbbepjpelaaGreatDoorRows
import GoSem.ClaimSeven
namespace Go.Proofs.YtoghgbbepjpelaaGreatDoor
namespace Rows

/-- THE TIED CARD OF 'laws.FnFirings'. -/
def fnFiringsCard : Claim7 := { stood := { row := fnFiringsRow, standIns := [], harness := (true, "2ea304e10625e0660782dc950de92971b5060622343ed90091f9e1354302ea52"), looks := true }, kinds := [], alts := [], laidByText := true, laidKinds := [.data, .data, .data, .data, .sentinel, .sentinel, .pinned], laidTests := true, laidLooks := .later }
def FnFiringsCardSaid : Prop := Claim7.holds Tryz.pinned (.plain (OpenSpec.ofChange fnFiringsSpec)) fnFiringsCard

/-- THE SECOND FORM's CARD OF 'laws.FnFirings'. -/
def fnFiringsUptoCard : Claim7 := { stood := { row := fnFiringsUptoRow, standIns := [], harness := (true, "2ea304e10625e0660782dc950de92971b5060622343ed90091f9e1354302ea52"), looks := true }, kinds := [], alts := [], laidByText := true, laidKinds := [.data, .data, .data, .data, .sentinel, .sentinel, .pinned], laidTests := true, laidLooks := .later }
def FnFiringsUptoCardSaid : Prop := Claim7.holds Tryz.pinned (.plain (OpenSpec.upto fnFiringsSpec)) fnFiringsUptoCard
end Rows
end Go.Proofs.YtoghgbbepjpelaaGreatDoor
