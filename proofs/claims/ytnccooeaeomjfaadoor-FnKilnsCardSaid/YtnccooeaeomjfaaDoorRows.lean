/-
  NARROWER THAN 'FOR EVERY INPUT', by the rows' own cells (each row's printed sentence says how): FnExactStageName: laid · FnKilns: laid.
  DERIVED. THE GIVEN ROWS OF THIS SEAT. 2 by the template 'for every input the law returns true; each argument reads behind the call as it read before'; 0 by the template 'total and deterministic' (their statements: YtnccooeaeomjfaaDoorTotals.lean).
  GIVEN WITH THE SEED: the statements are not yours to turn. If you find one false, say at which input.
  Laid BY PROGRAM, IN A SANDBOX (cutbox-rows.mjs): the forced cells as the released guide's own fill.sh prints them over the translation 44350ef9e16898c5… (all of the seat's roots in one cut). By AI agents, Wed Nov 11 2026. No macro, syntax, notation, axiom, sorry.
-/
import Derived.Test.YtnccooeaeomjfaaDoorChecked
import GoSem.Claim
import GoSem.ClaimJoined
import GoSem.ClaimMapViews
import Derived.JoinedTies
import Derived.KernelRfl
namespace Go.Proofs.YtnccooeaeomjfaaDoor
/- THE CELL 'sum', in the pinned program and in every row, IS THE sha256 OF THE DUMP (.gsa) THAT YtnccooeaeomjfaaDoorProg.lean LOADS. Nothing in Lean hashes anything: it is a label: what it is worth is what the hold of that sum in a sandbox is worth. -/
noncomputable def Tryd.pinned : Pinned := { name := "ytnccooeaeomjfaadoor", sum := "44350ef9e16898c5174bdd057c880d8cc6bb03f9f5778253b2884e7717a388b0", checked := Tryd.checked }
namespace Rows
def none {H : Type} : Left H := { results := [], args := [] }

/- WHAT THE LISTED PACKAGE-LEVEL VARIABLES READ AS WHEN THE CALL BEGINS. Each datum BY PROGRAM (the guide's laid-datum.mjs) off the statement by which the dump's own 'gosem.cut.vars' lays the variable. In a bare row this is a premise. The card (YtnccooeaeomjfaaDoorCards.lean) ties it to the program's text. -/
def laid_loop_example_g01042_impl_stageNames {H : Type} : DataW H := .agg [.lit (.string [101, 109, 112, 116, 121]), .lit (.string [115, 101, 116]), .lit (.string [104, 101, 97, 116]), .lit (.string [102, 105, 114, 101]), .lit (.string [99, 111, 111, 108]), .lit (.string [100, 114, 97, 119])]

/-- 'laws.FnExactStageName': WHATEVER THE INPUT: true; the input reads as it did. -/
def fnExactStageNameSpec : ChangeSpec := { name := "fnExactStageName", vars := ["loop.example/g01042/impl.stageNames"], fn := fun _ => fun
  | [d, g1] => { results := [.lit (.bool true)], args := [d], vars := [g1] }
  | _ => none }
def fnExactStageNameRow : OpenClaim := { program := "ytnccooeaeomjfaadoor", sum := "44350ef9e16898c5174bdd057c880d8cc6bb03f9f5778253b2884e7717a388b0", func := "loop.example/g01042/laws.FnExactStageName", spec := "fnExactStageName", named := ["loop.example/g01042/impl.stageNames"], apart := false, laid := [("loop.example/g01042/impl.stageNames", laid_loop_example_g01042_impl_stageNames)] }
def FnExactStageNameSaid : Prop := fnExactStageNameRow.holds Tryd.pinned (OpenSpec.ofChange fnExactStageNameSpec)

/-- ITS FALSE NEIGHBOUR: 'it returns false'. Refute it at one input. -/
def fnExactStageNameWrong : ChangeSpec := { name := "fnExactStageName", vars := ["loop.example/g01042/impl.stageNames"], fn := fun _ => fun
  | [d, g1] => { results := [.lit (.bool false)], args := [d], vars := [g1] }
  | _ => none }
def FnExactStageNameWrongFalsely : Prop := fnExactStageNameRow.holds Tryd.pinned (OpenSpec.ofChange fnExactStageNameWrong)

/-- 'laws.FnKilns': WHATEVER THE INPUT: true; the input reads as it did. -/
def fnKilnsSpec : ChangeSpec := { name := "fnKilns", vars := ["loop.example/g01042/impl.stageNames"], fn := fun _ => fun
  | [d1, d2, g1] => { results := [.lit (.bool true)], args := [d1, d2], vars := [g1] }
  | _ => none }
def fnKilnsRow : OpenClaim := { program := "ytnccooeaeomjfaadoor", sum := "44350ef9e16898c5174bdd057c880d8cc6bb03f9f5778253b2884e7717a388b0", func := "loop.example/g01042/laws.FnKilns", spec := "fnKilns", unfollowed := true, recurses := true, named := ["loop.example/g01042/impl.stageNames"], apart := false, laid := [("loop.example/g01042/impl.stageNames", laid_loop_example_g01042_impl_stageNames)] }
def FnKilnsSaid : Prop := fnKilnsRow.holds Tryd.pinned (OpenSpec.ofChange fnKilnsSpec)

/-- ITS FALSE NEIGHBOUR: 'it returns false'. Refute it at one input. -/
def fnKilnsWrong : ChangeSpec := { name := "fnKilns", vars := ["loop.example/g01042/impl.stageNames"], fn := fun _ => fun
  | [d1, d2, g1] => { results := [.lit (.bool false)], args := [d1, d2], vars := [g1] }
  | _ => none }
def FnKilnsWrongFalsely : Prop := fnKilnsRow.holds Tryd.pinned (OpenSpec.ofChange fnKilnsWrong)

/- THE SECOND FORM. 'bulk': how many values and letters a reading holds, each counted each time it is reached (what is shared counts as often as it is met; a slice's spare places count too). A statement '..UptoSaid' is the law's where the arguments, and the package variables that the reading takes, are together of bulk at most 1048576: NARROWER than '..Said'. Prove '..Said' where nothing that the law and all that it calls make is longer than what came in: it says more and counts as full. Else prove '..UptoSaid'. A law counts once. -/
mutual
def uptoBulk {H : Type} : DataW H → Nat
  | .lit (.string bytes) => bytes.length + 1
  | .lit _ => 1
  | .nil => 1
  | .ptr d => uptoBulk d + 1
  | .slice elems spare => uptoBulkAll elems + uptoBulkAll spare + 1
  | .agg parts => uptoBulkAll parts + 1
  | .iface _ d => uptoBulk d + 1
  | .map entries => uptoBulkEntries entries + 1
  | .held _ => 1
def uptoBulkAll {H : Type} : List (DataW H) → Nat
  | [] => 0
  | d :: r => uptoBulk d + uptoBulkAll r
def uptoBulkEntries {H : Type} : List (Lit × DataW H) → Nat
  | [] => 0
  | x :: r => uptoBulkEntry x + uptoBulkEntries r
def uptoBulkEntry {H : Type} : Lit × DataW H → Nat
  | (.string bytes, d) => bytes.length + uptoBulk d + 1
  | (_, d) => uptoBulk d + 1
 end
def uptoSmall : (H : Type) → List (DataW H) → Bool := fun _ ds => decide (uptoBulkAll ds ≤ 1048576)
def OpenSpec.upto (s : _root_.Go.ChangeSpec) : _root_.Go.OpenSpec := { _root_.Go.OpenSpec.ofChange s with cond := some uptoSmall }

/-- 'laws.FnExactStageName', WHERE WHAT IT READS IS OF BULK AT MOST 1048576: true; the input reads as it did. -/
def fnExactStageNameUptoRow : OpenClaim := { program := "ytnccooeaeomjfaadoor", sum := "44350ef9e16898c5174bdd057c880d8cc6bb03f9f5778253b2884e7717a388b0", func := "loop.example/g01042/laws.FnExactStageName", spec := "fnExactStageName", named := ["loop.example/g01042/impl.stageNames"], apart := false, laid := [("loop.example/g01042/impl.stageNames", laid_loop_example_g01042_impl_stageNames)], narrowed := true }
def FnExactStageNameUptoSaid : Prop := fnExactStageNameUptoRow.holds Tryd.pinned (OpenSpec.upto fnExactStageNameSpec)

/-- 'laws.FnKilns', WHERE WHAT IT READS IS OF BULK AT MOST 1048576: true; the input reads as it did. -/
def fnKilnsUptoRow : OpenClaim := { program := "ytnccooeaeomjfaadoor", sum := "44350ef9e16898c5174bdd057c880d8cc6bb03f9f5778253b2884e7717a388b0", func := "loop.example/g01042/laws.FnKilns", spec := "fnKilns", unfollowed := true, recurses := true, named := ["loop.example/g01042/impl.stageNames"], apart := false, laid := [("loop.example/g01042/impl.stageNames", laid_loop_example_g01042_impl_stageNames)], narrowed := true }
def FnKilnsUptoSaid : Prop := fnKilnsUptoRow.holds Tryd.pinned (OpenSpec.upto fnKilnsSpec)

end Rows
end Go.Proofs.YtnccooeaeomjfaaDoor
