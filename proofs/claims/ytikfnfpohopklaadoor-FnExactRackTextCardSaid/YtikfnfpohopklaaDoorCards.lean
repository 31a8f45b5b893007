/-
  DERIVED. GIVEN WITH THE SEED: THE CARDS: each row of YtikfnfpohopklaaDoorRows.lean that lists a variable, with what it lists TIED to the program's text (the seventh form; the later family's looks); each row that meets fmt, with fmt's text TOLD by the authors' own Lean function (tested against real Go, not proved from fmt's source: count such statements apart). THE CARD IS WHAT COUNTS. Prove the row's statement (the work); the ties are given (YtikfnfpohopklaaDoorTie.lean); close each card by the builder's one call (the guide's Derived/Test/ToyasCard.lean, 'card_holds'). Laid BY PROGRAM, IN A SANDBOX (cutbox-door.mjs). By AI agents, Wed Nov 11 2026. No macro, syntax, notation, axiom, sorry.
-/
import Derived.Test.YtikfnfpohopklaaDoorRows
import GoSem.ClaimSeven
namespace Go.Proofs.YtikfnfpohopklaaDoor
namespace Rows

/-- THE TIED CARD OF 'laws.FnExactRackText'. -/
def fnExactRackTextCard : Claim7 := { stood := { row := fnExactRackTextRow, standIns := [], harness := (true, "675386a6511c186844e21b3deb9d75f7d5476dedf54ec5fe1c1025051ad464d5"), looks := false }, kinds := [], alts := [], laidByText := true, laidKinds := [.data, .data, .data], laidTests := true, laidLooks := .later }
def FnExactRackTextCardSaid : Prop := Claim7.holds Tryd.pinned (.plain (OpenSpec.ofChange fnExactRackTextSpec)) fnExactRackTextCard

/-- THE TIED CARD OF 'laws.FnRacks'. -/
def fnRacksCard : Claim7 := { stood := { row := fnRacksRow, standIns := [], harness := (true, "675386a6511c186844e21b3deb9d75f7d5476dedf54ec5fe1c1025051ad464d5"), looks := false }, kinds := [], alts := [], laidByText := true, laidKinds := [.data, .data, .data], laidTests := true, laidLooks := .later }
def FnRacksCardSaid : Prop := Claim7.holds Tryd.pinned (.plain (OpenSpec.ofChange fnRacksSpec)) fnRacksCard

/-- THE SECOND FORM's CARD OF 'laws.FnExactRackText'. -/
def fnExactRackTextUptoCard : Claim7 := { stood := { row := fnExactRackTextUptoRow, standIns := [], harness := (true, "675386a6511c186844e21b3deb9d75f7d5476dedf54ec5fe1c1025051ad464d5"), looks := false }, kinds := [], alts := [], laidByText := true, laidKinds := [.data, .data, .data], laidTests := true, laidLooks := .later }
def FnExactRackTextUptoCardSaid : Prop := Claim7.holds Tryd.pinned (.plain (OpenSpec.upto fnExactRackTextSpec)) fnExactRackTextUptoCard

/-- THE SECOND FORM's CARD OF 'laws.FnRacks'. -/
def fnRacksUptoCard : Claim7 := { stood := { row := fnRacksUptoRow, standIns := [], harness := (true, "675386a6511c186844e21b3deb9d75f7d5476dedf54ec5fe1c1025051ad464d5"), looks := false }, kinds := [], alts := [], laidByText := true, laidKinds := [.data, .data, .data], laidTests := true, laidLooks := .later }
def FnRacksUptoCardSaid : Prop := Claim7.holds Tryd.pinned (.plain (OpenSpec.upto fnRacksSpec)) fnRacksUptoCard
end Rows
end Go.Proofs.YtikfnfpohopklaaDoor
