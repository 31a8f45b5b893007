/-
  DERIVED. GIVEN WITH THE SEED: THE CARDS: each row of YtnccooeaeomjfaaDoorRows.lean that lists a variable, with what it lists TIED to the program's text (the seventh form; the later family's looks); each row that meets fmt, with fmt's text TOLD by the authors' own Lean function (tested against real Go, not proved from fmt's source: count such statements apart). THE CARD IS WHAT COUNTS. Prove the row's statement (the work); the ties are given (YtnccooeaeomjfaaDoorTie.lean); close each card by the builder's one call (the guide's Derived/Test/ToyasCard.lean, 'card_holds'). Laid BY PROGRAM, IN A SANDBOX (cutbox-door.mjs). By AI agents, Wed Nov 11 2026. No macro, syntax, notation, axiom, sorry.
-/
import Derived.Test.YtnccooeaeomjfaaDoorRows
import GoSem.ClaimSeven
namespace Go.Proofs.YtnccooeaeomjfaaDoor
namespace Rows

/-- THE TIED CARD OF 'laws.FnExactStageName'. -/
def fnExactStageNameCard : Claim7 := { stood := { row := fnExactStageNameRow, standIns := [], harness := (true, "7e7655e0ca891720df58f4a8ae0eba5a2f330c4fb2c3acf8dd5ec885e9b8957d"), looks := false }, kinds := [], alts := [], laidByText := true, laidKinds := [.data], laidTests := true, laidLooks := .later }
def FnExactStageNameCardSaid : Prop := Claim7.holds Tryd.pinned (.plain (OpenSpec.ofChange fnExactStageNameSpec)) fnExactStageNameCard

/-- THE TIED CARD OF 'laws.FnKilns'. -/
def fnKilnsCard : Claim7 := { stood := { row := fnKilnsRow, standIns := [], harness := (true, "7e7655e0ca891720df58f4a8ae0eba5a2f330c4fb2c3acf8dd5ec885e9b8957d"), looks := false }, kinds := [], alts := [], laidByText := true, laidKinds := [.data], laidTests := true, laidLooks := .later }
def FnKilnsCardSaid : Prop := Claim7.holds Tryd.pinned (.plain (OpenSpec.ofChange fnKilnsSpec)) fnKilnsCard

/-- THE SECOND FORM's CARD OF 'laws.FnExactStageName'. -/
def fnExactStageNameUptoCard : Claim7 := { stood := { row := fnExactStageNameUptoRow, standIns := [], harness := (true, "7e7655e0ca891720df58f4a8ae0eba5a2f330c4fb2c3acf8dd5ec885e9b8957d"), looks := false }, kinds := [], alts := [], laidByText := true, laidKinds := [.data], laidTests := true, laidLooks := .later }
def FnExactStageNameUptoCardSaid : Prop := Claim7.holds Tryd.pinned (.plain (OpenSpec.upto fnExactStageNameSpec)) fnExactStageNameUptoCard

/-- THE SECOND FORM's CARD OF 'laws.FnKilns'. -/
def fnKilnsUptoCard : Claim7 := { stood := { row := fnKilnsUptoRow, standIns := [], harness := (true, "7e7655e0ca891720df58f4a8ae0eba5a2f330c4fb2c3acf8dd5ec885e9b8957d"), looks := false }, kinds := [], alts := [], laidByText := true, laidKinds := [.data], laidTests := true, laidLooks := .later }
def FnKilnsUptoCardSaid : Prop := Claim7.holds Tryd.pinned (.plain (OpenSpec.upto fnKilnsSpec)) fnKilnsUptoCard
end Rows
end Go.Proofs.YtnccooeaeomjfaaDoor
