/- From what the card lists to what the walks ask: the table of powers of ten. -/
import Derived.Test.YtoghgbbepjpelaaDoorN2
import Derived.LaidMore
import Derived.OpenShut
import Derived.OpenVars
import Derived.Stop.LaidErr
namespace Go.Proofs.YtoghgbbepjpelaaDoor
open Go.ChangeShapes Go.WideShapes Go.ChangeAt Go.WideMaps Go.WideElems Go.RowKit
set_option linter.unusedVariables false

theorem pow10_datum {H : Type} : (Rows.laid_internal_strconv_uint64pow10 : DataW H) = Lib.tabData .u64 Lib.pow10Tab := by
  simp only [Rows.laid_internal_strconv_uint64pow10, Lib.tabData]
  rfl
theorem tab_type : (Tryd.prog.globals[1]?).map (·.type) = some 134 := by kernel_rfl
theorem tab_of {W : World} {rest : List (String × DataW Unit)} (h : laidMet Tryd.prog (("internal/strconv.uint64pow10", Rows.laid_internal_strconv_uint64pow10) :: rest) W) : Tab W := by
  rw [pow10_datum] at h
  exact Lib.tabIs_of_head tab_glob tab_type Tryd.underlying134 Tryd.underlying97 (by kernel_rfl) (by kernel_rfl) h
end Go.Proofs.YtoghgbbepjpelaaDoor
