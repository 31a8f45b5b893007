/- From what the card lists to what the walks ask: the table of powers of ten, the names of the kinds of causes. -/
import Derived.Test.YtmapjepdcbpalaaDoorCT
import Derived.LaidMore
import Derived.OpenShut
import Derived.OpenVars
import Derived.Stop.LaidErr
namespace Go.Proofs.YtmapjepdcbpalaaDoor
open Go.ChangeShapes Go.WideShapes Go.ChangeAt Go.WideMaps Go.WideElems Go.RowKit
set_option linter.unusedVariables false

theorem pow10_datum {H : Type} : (Rows.laid_internal_strconv_uint64pow10 : DataW H) = Lib.tabData .u64 Lib.pow10Tab := by
  simp only [Rows.laid_internal_strconv_uint64pow10, Lib.tabData]
  rfl
theorem tab_type : (Tryd.prog.globals[2]?).map (·.type) = some 73 := by kernel_rfl
theorem tab_of {W : World} {rest : List (String × DataW Unit)} (h : laidMet Tryd.prog (("internal/strconv.uint64pow10", Rows.laid_internal_strconv_uint64pow10) :: rest) W) : Tab W := by
  rw [pow10_datum] at h
  exact Lib.tabIs_of_head tab_glob tab_type Tryd.underlying73 Tryd.underlying57 (by kernel_rfl) (by kernel_rfl) h
/-- An array of strings that is listed first. -/
theorem strings_of {W : World} {name : String} {n g t ts : Nat} {D : List (DataW Unit)} {rest : List (String × DataW Unit)} (hg : Tryd.prog.globalNamed name = some g) (ht : (Tryd.prog.globals[g]?).map (·.type) = some t)
    (hu : Tryd.prog.underlying t = some (.array n ts)) (hs : Tryd.prog.underlying ts = some .string) (cA : Tryd.prog.cellsOf t = n) (cS : Tryd.prog.cellsOf ts = 1) (h : laidMet Tryd.prog ((name, .agg D) :: rest) W) :
    ∀ (i : Nat) (s : List UInt8), i < n → D[i]? = some (.lit (.string s)) → W.cell? ⟨g, i, none⟩ = some (.string ⟨s.toArray⟩) := by
  obtain ⟨ps, ⟨g0, t0, cs0, f0, p0, q0, hg0, ht0, hv0, hd0, _⟩, _⟩ := h
  obtain rfl := Option.some.inj (hg.symm.trans hg0)
  obtain rfl := Option.some.inj (ht.symm.trans ht0)
  obtain ⟨xs, m1, rfl, hx1, hlen, hn, hel⟩ := DataW.trod_array hu hd0
  simp only [Prod.mk.injEq, DataW.agg.injEq] at hx1
  obtain ⟨hx1, _⟩ := hx1
  rw [cA] at hlen
  rw [cS] at hel
  intro i s hi hxs
  have h1 := hel i hi
  have hxl : i < xs.length := by rw [hn]; exact hi
  have hxi : xs[i]? = some (xs[i]'hxl) := List.getElem?_eq_getElem hxl
  rw [hxi] at h1
  obtain ⟨b, e1, e2, _⟩ := DataW.trod_string hs h1
  rw [hx1, List.getElem?_map, hxi, e2] at hxs
  simp at hxs
  have hc : cs0.toList[i]? = some (.string b) := by
    have := congrArg (fun l => l[0]?) e1
    simpa [List.getElem?_take, List.getElem?_drop] using this
  have h2 := World.var?_cell hg0 hv0 i
  rw [h2]
  have : b = ⟨s.toArray⟩ := by rw [← hxs]
  rw [← this]
  simpa using hc
theorem cn_glob : Tryd.prog.globalNamed "loop.example/g01042/impl.causeNames" = some 0 := by kernel_rfl
theorem cn_type : (Tryd.prog.globals[0]?).map (·.type) = some 36 := by kernel_rfl
theorem names_of {W : World} {rest : List (String × DataW Unit)} (h : laidMet Tryd.prog (("loop.example/g01042/impl.causeNames", Rows.laid_loop_example_g01042_impl_causeNames) :: rest) W) : CNames W := by
  have key := strings_of cn_glob cn_type Tryd.underlying36 Tryd.underlying9 (by kernel_rfl) (by kernel_rfl) h
  exact ⟨key 0 [] (by omega) rfl, key 1 _ (by omega) rfl, key 2 _ (by omega) rfl, key 3 _ (by omega) rfl⟩
end Go.Proofs.YtmapjepdcbpalaaDoor
