/- The contracts of RackText, the reference's and the program's. -/
import Derived.Test.YtoghgbbepjpelaaDoorV2
import Derived.Test.YtoghgbbepjpelaaDoorN2
namespace Go.Proofs.YtoghgbbepjpelaaDoor
open Go.RowKit
set_option linter.unusedVariables false

def sinceS : ByteArray := ⟨#[32, 115, 105, 110, 99, 101, 32]⟩
def needsS : ByteArray := ⟨#[32, 110, 101, 101, 100, 115, 32]⟩
/-- What a rack holds, of its room. -/
def holdsS (r : Rack) : ByteArray := (decS r.Holds ++ ⟨#[47]⟩) ++ decS r.Room
/-- A rack as a text. -/
def rackS (r : Rack) : ByteArray := if r.okB = true then (if r.Holds = 0 then holdsS r else (((holdsS r ++ sinceS) ++ decS r.Since) ++ needsS) ++ decS r.Needs) else ⟨#[]⟩
theorem cat_any {P : Program} {x y : ByteArray} (hx : x.size ≤ 1000) (hy : y.size ≤ 1000) : ∀ W : World, (Op.stringOp .add x y).run P W = .ok (.string (x ++ y)) W := fun W => run_string_add_sum W _ _ (by omega)
theorem cat_size {x y : ByteArray} {a b : Nat} (hx : x.size ≤ a) (hy : y.size ≤ b) : (x ++ y).size ≤ a + b := by rw [ByteArray.size_append]; omega

set_option maxHeartbeats 4000000 in
theorem specRackText_any (r : Rack) (w : World) :
    Calls Tryd.prog 26 #[.agg #[.int .i64 r.Room, .int .i64 r.Holds, .int .i64 r.Since, .int .i64 r.Needs]] w fun e w' => e = .returned (.string (rackS r)) ∧ Below w.heap.size w w' := by
  have hlies : r.lies (w.alloc (.cells #[.int .i64 r.Room, .int .i64 r.Holds, .int .i64 r.Since, .int .i64 r.Needs] 43)) w.heap.size 0 := ⟨by go_simp, by go_simp, by go_simp, by go_simp⟩
  rcases Bool.eq_false_or_eq_true r.okB with g | g
  · obtain ⟨⟨r0, r1⟩, ⟨h0, h1⟩, ⟨s0, s1⟩, ⟨n0, n1⟩⟩ := okB_facts g
    have G := Lib.hid g
    have E := Lib.hid (show rackS r = if r.Holds = 0 then holdsS r else (((holdsS r ++ sinceS) ++ decS r.Since) ++ needsS) ++ decS r.Needs by rw [rackS, if_pos g])
    clear g
    have z1 := decS_size r.Holds (by omega) (by omega)
    have z2 := decS_size r.Room (by omega) (by omega)
    have z3 := decS_size r.Since (by omega) (by omega)
    have z4 := decS_size r.Needs (by omega) (by omega)
    have y0 : (⟨#[47]⟩ : ByteArray).size ≤ 1 := by decide
    have ys : (⟨#[32, 115, 105, 110, 99, 101, 32]⟩ : ByteArray).size ≤ 7 := by decide
    have yn : (⟨#[32, 110, 101, 101, 100, 115, 32]⟩ : ByteArray).size ≤ 7 := by decide
    have y1 := cat_size z1 y0
    have y2 := cat_size y1 z2
    have K1 := cat_any (P := Tryd.prog) (x := decS r.Holds) (y := ⟨#[47]⟩) (by omega) (by omega)
    have K2 := cat_any (P := Tryd.prog) (x := decS r.Holds ++ ⟨#[47]⟩) (y := decS r.Room) (by omega) (by omega)
    have y3 := cat_size y2 ys
    have y4 := cat_size y3 z3
    have y5 := cat_size y4 yn
    have K3 := cat_any (P := Tryd.prog) (x := (decS r.Holds ++ ⟨#[47]⟩) ++ decS r.Room) (y := ⟨#[32, 115, 105, 110, 99, 101, 32]⟩) (by omega) (by omega)
    have K4 := cat_any (P := Tryd.prog) (x := ((decS r.Holds ++ ⟨#[47]⟩) ++ decS r.Room) ++ ⟨#[32, 115, 105, 110, 99, 101, 32]⟩) (y := decS r.Since) (by omega) (by omega)
    have K5 := cat_any (P := Tryd.prog) (x := (((decS r.Holds ++ ⟨#[47]⟩) ++ decS r.Room) ++ ⟨#[32, 115, 105, 110, 99, 101, 32]⟩) ++ decS r.Since) (y := ⟨#[32, 110, 101, 101, 100, 115, 32]⟩) (by omega) (by omega)
    have K6 := cat_any (P := Tryd.prog) (x := ((((decS r.Holds ++ ⟨#[47]⟩) ++ decS r.Room) ++ ⟨#[32, 115, 105, 110, 99, 101, 32]⟩) ++ decS r.Since) ++ ⟨#[32, 110, 101, 101, 100, 115, 32]⟩) (y := decS r.Needs) (by omega) (by omega)
    clear y0 y1 y2 y3 y4 y5 ys yn z1 z2 z3 z4
    go_enter Tryd.func26, Tryd.ntmps26
    go_wp2_with fail
    refine (asB (l15One_any _ _ _ _ hlies) G.out).mono ?_; rintro e w1 ⟨rfl, hb1⟩
    obtain ⟨hc1, hf1⟩ := bcell hb1
    have hz1 := hb1.size; simp only [World.size_alloc] at hz1
    have B1 : Below w.heap.size w w1 := bel_tr (by first | (go_grown; done) | (go_split_ands; assumption)) hb1
    have d0 : w1.cell? ⟨w.heap.size, 0, none⟩ = some (.int .i64 r.Room) := (hc1 w.heap.size 0 (by simp)).trans (by go_simp)
    have d1 : w1.cell? ⟨w.heap.size, 1, none⟩ = some (.int .i64 r.Holds) := (hc1 w.heap.size 1 (by simp)).trans (by go_simp)
    have d2 : w1.cell? ⟨w.heap.size, 2, none⟩ = some (.int .i64 r.Since) := (hc1 w.heap.size 2 (by simp)).trans (by go_simp)
    have d3 : w1.cell? ⟨w.heap.size, 3, none⟩ = some (.int .i64 r.Needs) := (hc1 w.heap.size 3 (by simp)).trans (by go_simp)
    have hl1 : w.heap.size < w1.heap.size := by omega
    clear hc1 hf1 hb1
    go_wp2_with fail
    go_region_held3 (fun w' => w'.cell? ⟨w.heap.size, 0, none⟩ = some (.int .i64 r.Room) ∧ w'.cell? ⟨w.heap.size, 1, none⟩ = some (.int .i64 r.Holds) ∧ w'.cell? ⟨w.heap.size, 2, none⟩ = some (.int .i64 r.Since) ∧ w'.cell? ⟨w.heap.size, 3, none⟩ = some (.int .i64 r.Needs) ∧ w.heap.size < w'.heap.size ∧ Below w1.heap.size w1 w')
      ((try refine ⟨?_, ?_, ?_, ?_, ?_, ?_⟩) <;> (first | go_keep | (go_grown; done) | (go_split_ands; first | exact (hb1.cell (p := ⟨_, _, none⟩) (by assumption)).trans (by assumption) | exact Nat.lt_of_lt_of_le (by assumption) hb1.size | exact bel_tr (by assumption) hb1)))
      ((go_at_call 58; (with_reducible refine (l01Dec_any _ _ (by omega) (by omega)).mono ?_); rintro e wz ⟨rfl, hb1⟩))
    go_split_ands
    rename Below w1.heap.size w1 _ => hb2
    rename World => w2
    have B2 := bel_tr B1 hb2
    by_cases hz : r.Holds = 0
    · have hz2 : (r.Holds == 0) = true := by simpa using hz
      have EE : Hid (rackS r = (decS r.Holds ++ ⟨#[47]⟩) ++ decS r.Room) := Lib.hid (E.out.trans (if_pos hz))
      have hz3 : ¬ 0 < r.Holds := by omega
      clear hz hb2
      go_wp2_with fail
      go_ret
      rw [EE.out]
      exact ⟨rfl, B2⟩
    · have hz2 : (r.Holds == 0) = false := by simpa using hz
      have EE := Lib.hid (show rackS r = ((((((decS r.Holds ++ ⟨#[47]⟩) ++ decS r.Room) ++ ⟨#[32, 115, 105, 110, 99, 101, 32]⟩) ++ decS r.Since) ++ ⟨#[32, 110, 101, 101, 100, 115, 32]⟩) ++ decS r.Needs) from E.out.trans (if_neg hz))
      have hz3 : 0 < r.Holds := by omega
      clear hz hb2 d0 d1 d2 d3
      go_wp2_with fail
      go_region_held3 (fun w' => w'.cell? ⟨w.heap.size, 0, none⟩ = some (.int .i64 r.Room) ∧ w'.cell? ⟨w.heap.size, 1, none⟩ = some (.int .i64 r.Holds) ∧ w'.cell? ⟨w.heap.size, 2, none⟩ = some (.int .i64 r.Since) ∧ w'.cell? ⟨w.heap.size, 3, none⟩ = some (.int .i64 r.Needs) ∧ w.heap.size < w'.heap.size ∧ Below w2.heap.size w2 w')
        ((try refine ⟨?_, ?_, ?_, ?_, ?_, ?_⟩) <;> (first | go_keep | (go_grown; done) | (go_split_ands; first | exact (hb1.cell (p := ⟨_, _, none⟩) (by assumption)).trans (by assumption) | exact Nat.lt_of_lt_of_le (by assumption) hb1.size | exact bel_tr (by assumption) hb1)))
        ((go_at_call 58; (with_reducible refine (l01Dec_any _ _ (by omega) (by omega)).mono ?_); rintro e wz ⟨rfl, hb1⟩))
      go_split_ands
      rename Below w2.heap.size w2 _ => hb3
      go_wp2_with fail
      go_ret
      rw [EE.out]
      exact ⟨rfl, bel_tr B2 hb3⟩
  · have E := Lib.hid (show rackS r = ⟨#[]⟩ by rw [rackS, g]; rfl)
    have G := Lib.hid g; clear g
    go_enter Tryd.func26, Tryd.ntmps26
    go_wp2_with fail
    refine (asB (l15One_any _ _ _ _ hlies) G.out).mono ?_; rintro e w1 ⟨rfl, hb1⟩
    go_wp2_with fail
    go_ret
    rw [E.out]
    exact ⟨rfl, bel_tr (by first | (go_grown; done) | (go_split_ands; assumption)) hb1⟩
set_option maxHeartbeats 4000000 in
theorem implRackText_any (r : Rack) (w : World) (hT : Tab w) :
    Calls Tryd.prog 25 #[.agg #[.int .i64 r.Room, .int .i64 r.Holds, .int .i64 r.Since, .int .i64 r.Needs]] w fun e w' => e = .returned (.string (rackS r)) ∧ Below w.heap.size w w' := by
  have HT := Lib.hid hT; clear hT
  rcases Bool.eq_false_or_eq_true r.okB with g | g
  · obtain ⟨⟨r0, r1⟩, ⟨h0, h1⟩, ⟨s0, s1⟩, ⟨n0, n1⟩⟩ := okB_facts g
    have G := Lib.hid g
    have E := Lib.hid (show rackS r = if r.Holds = 0 then holdsS r else (((holdsS r ++ sinceS) ++ decS r.Since) ++ needsS) ++ decS r.Needs by rw [rackS, if_pos g])
    clear g
    have z1 := decS_size r.Holds (by omega) (by omega)
    have z2 := decS_size r.Room (by omega) (by omega)
    have z3 := decS_size r.Since (by omega) (by omega)
    have z4 := decS_size r.Needs (by omega) (by omega)
    have y0 : (⟨#[47]⟩ : ByteArray).size ≤ 1 := by decide
    have ys : (⟨#[32, 115, 105, 110, 99, 101, 32]⟩ : ByteArray).size ≤ 7 := by decide
    have yn : (⟨#[32, 110, 101, 101, 100, 115, 32]⟩ : ByteArray).size ≤ 7 := by decide
    have y1 := cat_size z1 y0
    have y2 := cat_size y1 z2
    have K1 := cat_any (P := Tryd.prog) (x := decS r.Holds) (y := ⟨#[47]⟩) (by omega) (by omega)
    have K2 := cat_any (P := Tryd.prog) (x := decS r.Holds ++ ⟨#[47]⟩) (y := decS r.Room) (by omega) (by omega)
    have y3 := cat_size ys z3
    have y4 := cat_size y3 yn
    have y5 := cat_size y4 z4
    have K3 := cat_any (P := Tryd.prog) (x := ⟨#[32, 115, 105, 110, 99, 101, 32]⟩) (y := decS r.Since) (by omega) (by omega)
    have K4 := cat_any (P := Tryd.prog) (x := ⟨#[32, 115, 105, 110, 99, 101, 32]⟩ ++ decS r.Since) (y := ⟨#[32, 110, 101, 101, 100, 115, 32]⟩) (by omega) (by omega)
    have K5 := cat_any (P := Tryd.prog) (x := (⟨#[32, 115, 105, 110, 99, 101, 32]⟩ ++ decS r.Since) ++ ⟨#[32, 110, 101, 101, 100, 115, 32]⟩) (y := decS r.Needs) (by omega) (by omega)
    have K6 := cat_any (P := Tryd.prog) (x := (decS r.Holds ++ ⟨#[47]⟩) ++ decS r.Room) (y := ((⟨#[32, 115, 105, 110, 99, 101, 32]⟩ ++ decS r.Since) ++ ⟨#[32, 110, 101, 101, 100, 115, 32]⟩) ++ decS r.Needs) (by omega) (by omega)
    clear y0 y1 y2 y3 y4 y5 ys yn z1 z2 z3 z4
    go_enter Tryd.func25, Tryd.ntmps25
    go_wp2_with fail
    refine (asB (validRack_any r _) G.out).mono ?_; rintro e w1 ⟨rfl, hb1⟩
    obtain ⟨hc1, hf1⟩ := bcell hb1
    have hz1 := hb1.size; simp only [World.size_alloc] at hz1
    have B1 : Below w.heap.size w w1 := bel_tr (by first | (go_grown; done) | (go_split_ands; assumption)) hb1
    have d0 : w1.cell? ⟨w.heap.size, 0, none⟩ = some (.int .i64 r.Room) := (hc1 w.heap.size 0 (by simp)).trans (by go_simp)
    have d1 : w1.cell? ⟨w.heap.size, 1, none⟩ = some (.int .i64 r.Holds) := (hc1 w.heap.size 1 (by simp)).trans (by go_simp)
    have d2 : w1.cell? ⟨w.heap.size, 2, none⟩ = some (.int .i64 r.Since) := (hc1 w.heap.size 2 (by simp)).trans (by go_simp)
    have d3 : w1.cell? ⟨w.heap.size, 3, none⟩ = some (.int .i64 r.Needs) := (hc1 w.heap.size 3 (by simp)).trans (by go_simp)
    have hl1 : w.heap.size < w1.heap.size := by omega
    have HT1 := Lib.hid (HT.out.below B1)
    clear hc1 hf1 hb1
    go_wp2_with fail
    go_region_held3 (fun w' => w'.cell? ⟨w.heap.size, 0, none⟩ = some (.int .i64 r.Room) ∧ w'.cell? ⟨w.heap.size, 1, none⟩ = some (.int .i64 r.Holds) ∧ w'.cell? ⟨w.heap.size, 2, none⟩ = some (.int .i64 r.Since) ∧ w'.cell? ⟨w.heap.size, 3, none⟩ = some (.int .i64 r.Needs) ∧ w.heap.size < w'.heap.size ∧ Below w1.heap.size w1 w')
      ((try refine ⟨?_, ?_, ?_, ?_, ?_, ?_⟩) <;> (first | go_keep | (go_grown; done) | (go_split_ands; first | exact (hb1.cell (p := ⟨_, _, none⟩) (by assumption)).trans (by assumption) | exact Nat.lt_of_lt_of_le (by assumption) hb1.size | exact bel_tr (by assumption) hb1)))
      ((go_at_call 39; (with_reducible refine (implDecimal_any _ _ (by omega) (by omega) (HT1.out.below (by first | (go_split_ands; assumption) | (go_grown; done)))).mono ?_); rintro e wz ⟨rfl, hb1⟩))
    go_split_ands
    rename Below w1.heap.size w1 _ => hb2
    rename World => w2
    have B2 := bel_tr B1 hb2
    have HT2 := Lib.hid (HT1.out.below hb2)
    by_cases hz : r.Holds = 0
    · have hz2 : (r.Holds == 0) = true := by simpa using hz
      have EE : Hid (rackS r = (decS r.Holds ++ ⟨#[47]⟩) ++ decS r.Room) := Lib.hid (E.out.trans (if_pos hz))
      have hz3 : ¬ 0 < r.Holds := by omega
      clear hz hb2
      go_wp2_with fail
      go_ret
      rw [EE.out]
      exact ⟨rfl, B2⟩
    · have hz2 : (r.Holds == 0) = false := by simpa using hz
      have EE := Lib.hid (show rackS r = ((decS r.Holds ++ ⟨#[47]⟩) ++ decS r.Room) ++ (((⟨#[32, 115, 105, 110, 99, 101, 32]⟩ ++ decS r.Since) ++ ⟨#[32, 110, 101, 101, 100, 115, 32]⟩) ++ decS r.Needs) from (E.out.trans (if_neg hz)).trans (by simp only [holdsS, sinceS, needsS, ByteArray.append_assoc]))
      have hz3 : 0 < r.Holds := by omega
      clear hz hb2 d0 d1 d2 d3
      go_wp2_with fail
      go_region_held3 (fun w' => w'.cell? ⟨w.heap.size, 0, none⟩ = some (.int .i64 r.Room) ∧ w'.cell? ⟨w.heap.size, 1, none⟩ = some (.int .i64 r.Holds) ∧ w'.cell? ⟨w.heap.size, 2, none⟩ = some (.int .i64 r.Since) ∧ w'.cell? ⟨w.heap.size, 3, none⟩ = some (.int .i64 r.Needs) ∧ w.heap.size < w'.heap.size ∧ Below w2.heap.size w2 w')
        ((try refine ⟨?_, ?_, ?_, ?_, ?_, ?_⟩) <;> (first | go_keep | (go_grown; done) | (go_split_ands; first | exact (hb1.cell (p := ⟨_, _, none⟩) (by assumption)).trans (by assumption) | exact Nat.lt_of_lt_of_le (by assumption) hb1.size | exact bel_tr (by assumption) hb1)))
        ((go_at_call 39; (with_reducible refine (implDecimal_any _ _ (by omega) (by omega) (HT2.out.below (by first | (go_split_ands; assumption) | (go_grown; done)))).mono ?_); rintro e wz ⟨rfl, hb1⟩))
      go_split_ands
      rename Below w2.heap.size w2 _ => hb3
      go_wp2_with fail
      go_ret
      rw [EE.out]
      exact ⟨rfl, bel_tr B2 hb3⟩
  · have E := Lib.hid (show rackS r = ⟨#[]⟩ by rw [rackS, g]; rfl)
    have G := Lib.hid g; clear g
    go_enter Tryd.func25, Tryd.ntmps25
    go_wp2_with fail
    refine (asB (validRack_any r _) G.out).mono ?_; rintro e w1 ⟨rfl, hb1⟩
    go_wp2_with fail
    go_ret
    rw [E.out]
    exact ⟨rfl, bel_tr (by first | (go_grown; done) | (go_split_ands; assumption)) hb1⟩
end Go.Proofs.YtoghgbbepjpelaaDoor
