/- The contracts of StageName, the reference's and the program's; the program's table. -/
import Derived.Test.YtnccooeaeomjfaaDoorK7
namespace Go.Proofs.YtnccooeaeomjfaaDoor
open Go.RowKit
set_option linter.unusedVariables false

/-- The name of a stage. -/
def stageNm (t : Int) : ByteArray :=
  if t = 0 then ⟨#[101, 109, 112, 116, 121]⟩ else if t = 1 then ⟨#[115, 101, 116]⟩ else if t = 2 then ⟨#[104, 101, 97, 116]⟩ else if t = 3 then ⟨#[102, 105, 114, 101]⟩ else if t = 4 then ⟨#[99, 111, 111, 108]⟩ else if t = 5 then ⟨#[100, 114, 97, 119]⟩ else ⟨#[]⟩
/-- The table of the program, in memory. -/
structure Names (w : World) : Prop where
  c0 : w.cell? ⟨0, 0, none⟩ = some (.string ⟨#[101, 109, 112, 116, 121]⟩)
  c1 : w.cell? ⟨0, 1, none⟩ = some (.string ⟨#[115, 101, 116]⟩)
  c2 : w.cell? ⟨0, 2, none⟩ = some (.string ⟨#[104, 101, 97, 116]⟩)
  c3 : w.cell? ⟨0, 3, none⟩ = some (.string ⟨#[102, 105, 114, 101]⟩)
  c4 : w.cell? ⟨0, 4, none⟩ = some (.string ⟨#[99, 111, 111, 108]⟩)
  c5 : w.cell? ⟨0, 5, none⟩ = some (.string ⟨#[100, 114, 97, 119]⟩)
theorem Names.below {w w' : World} (h : Names w) (hb : Below w.heap.size w w') : Names w' := by
  have hl : 0 < w.heap.size := World.block_lt_of_cell? w _ h.c0
  exact ⟨(hb.cell (p := ⟨0, _, none⟩) hl).trans h.c0, (hb.cell (p := ⟨0, _, none⟩) hl).trans h.c1, (hb.cell (p := ⟨0, _, none⟩) hl).trans h.c2, (hb.cell (p := ⟨0, _, none⟩) hl).trans h.c3, (hb.cell (p := ⟨0, _, none⟩) hl).trans h.c4, (hb.cell (p := ⟨0, _, none⟩) hl).trans h.c5⟩

theorem implStageName_any (t : Int) (w : World) (hN : Names w) :
    Calls Tryd.prog 6 #[.int .i64 t] w fun e w' => e = .returned (.string (stageNm t)) ∧ w = w' := by
  have h0 := hN.c0
  have h1 := hN.c1
  have h2 := hN.c2
  have h3 := hN.c3
  have h4 := hN.c4
  have h5 := hN.c5
  rcases Bool.eq_false_or_eq_true (inB t 0 5) with g | g
  · have hb := inB_true.1 g
    have G := Lib.hid g; clear g
    have hcase : t = 0 ∨ t = 1 ∨ t = 2 ∨ t = 3 ∨ t = 4 ∨ t = 5 := by omega
    clear hb
    rcases hcase with rfl | rfl | rfl | rfl | rfl | rfl
    all_goals
      go_enter Tryd.func6, Tryd.ntmps6
      go_wp2_with (go_at_call 18; refine (asB (within_any _ _ _ _) G.out).mono ?_; rintro e w' ⟨rfl, rfl⟩)
      go_ret
      exact ⟨rfl, rfl⟩
  · have hb := inB_false.1 g
    have G := Lib.hid g; clear g
    have E : Hid (stageNm t = ⟨#[]⟩) := by
      show _ = _
      unfold stageNm
      rw [if_neg (by omega), if_neg (by omega), if_neg (by omega), if_neg (by omega), if_neg (by omega), if_neg (by omega)]
    clear hb
    go_enter Tryd.func6, Tryd.ntmps6
    go_wp2_with (go_at_call 18; refine (asB (within_any _ _ _ _) G.out).mono ?_; rintro e w' ⟨rfl, rfl⟩)
    go_ret
    exact ⟨congrArg (fun s => Ending.returned (Value.string s)) E.out.symm, rfl⟩

theorem specStageName_any (t : Int) (w : World) :
    Calls Tryd.prog 5 #[.int .i64 t] w fun e w' => e = .returned (.string (stageNm t)) ∧ Below w.heap.size w w' := by
  rcases Bool.eq_false_or_eq_true (inB t 0 5) with g | g
  · have hb := inB_true.1 g
    have G := Lib.hid g; clear g
    have hcase : t = 0 ∨ t = 1 ∨ t = 2 ∨ t = 3 ∨ t = 4 ∨ t = 5 := by omega
    clear hb
    rcases hcase with rfl | rfl | rfl | rfl | rfl | rfl
    all_goals
      go_enter Tryd.func5, Tryd.ntmps5
      go_wp2_with (first | (go_at_call 16; refine (asB (in_any _ _ _ _) G.out).mono ?_; rintro e w' ⟨rfl, rfl⟩) | (go_at_call 17; refine (l17Names_any _).mono ?_; rintro e w1 ⟨rfl, rfl⟩))
      go_ret
      exact ⟨rfl, by go_grown⟩
  · have hb := inB_false.1 g
    have G := Lib.hid g; clear g
    have E : Hid (stageNm t = ⟨#[]⟩) := by
      show _ = _
      unfold stageNm
      rw [if_neg (by omega), if_neg (by omega), if_neg (by omega), if_neg (by omega), if_neg (by omega), if_neg (by omega)]
    clear hb
    go_enter Tryd.func5, Tryd.ntmps5
    go_wp2_with (go_at_call 16; refine (asB (in_any _ _ _ _) G.out).mono ?_; rintro e w' ⟨rfl, rfl⟩)
    go_ret
    exact ⟨congrArg (fun s => Ending.returned (Value.string s)) E.out.symm, Below.refl _ _⟩

theorem stageNm_some (t : Nat) (h : t < 6) : ∃ nm, stageNm t = nm ∧ (¬ nm.toList = []) ∧ (!nm.toList.isEmpty) = true ∧ (nm.toList == []) = false := by
  have hc : t = 0 ∨ t = 1 ∨ t = 2 ∨ t = 3 ∨ t = 4 ∨ t = 5 := by omega
  rcases hc with rfl | rfl | rfl | rfl | rfl | rfl <;> exact ⟨_, rfl, by simp [stageNm, ByteArray.toList_eq], by simp [stageNm, ByteArray.toList_eq], by simp [stageNm, ByteArray.toList_eq]⟩
end Go.Proofs.YtnccooeaeomjfaaDoor
