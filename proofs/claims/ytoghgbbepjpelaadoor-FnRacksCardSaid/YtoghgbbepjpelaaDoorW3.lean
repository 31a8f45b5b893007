/- The contracts of isDry and DryOn, the reference's and the program's. -/
import Derived.Test.YtoghgbbepjpelaaDoorW2
namespace Go.Proofs.YtoghgbbepjpelaaDoor
open Go.RowKit
set_option linter.unusedVariables false

def dryP (s : ByteArray) (a : Nat) (needs : Int) (k : Nat) : Bool := decide (needs ≤ psW s a k)
def isDryB (s : ByteArray) (a : Nat) (needs : Int) (d : Nat) : Bool := decide (a ≤ d) && dryP s a needs (d - a)


end Go.Proofs.YtoghgbbepjpelaaDoor
