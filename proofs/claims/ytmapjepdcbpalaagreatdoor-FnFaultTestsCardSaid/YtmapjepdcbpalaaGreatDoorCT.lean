/- The contracts of CauseText, the reference's and the program's. -/
import Derived.Test.YtmapjepdcbpalaaGreatDoorB2
import Derived.Test.YtmapjepdcbpalaaGreatDoorN2
namespace Go.Proofs.YtmapjepdcbpalaaGreatDoor
open Go.RowKit
set_option linter.unusedVariables false

/-- The names of the kinds of causes. -/
def wordS (k : Int) : ByteArray := if k = 1 then ⟨#[99, 108, 97, 121]⟩ else if k = 2 then ⟨#[109, 111, 117, 108, 100]⟩ else ⟨#[99, 104, 97, 109, 98, 101, 114]⟩
/-- A cause as a text. -/
def causeS (c : Cause) : ByteArray := if causeB c = true then (wordS c.Kind ++ ⟨#[32]⟩) ++ decS c.Number else ⟨#[]⟩
/-- The table of the program, in memory. -/
structure CNames (w : World) : Prop where
  c0 : w.cell? ⟨0, 0, none⟩ = some (.string ⟨#[]⟩)
  c1 : w.cell? ⟨0, 1, none⟩ = some (.string ⟨#[99, 108, 97, 121]⟩)
  c2 : w.cell? ⟨0, 2, none⟩ = some (.string ⟨#[109, 111, 117, 108, 100]⟩)
  c3 : w.cell? ⟨0, 3, none⟩ = some (.string ⟨#[99, 104, 97, 109, 98, 101, 114]⟩)
theorem CNames.lt {w : World} (h : CNames w) : 0 < w.heap.size := World.block_lt_of_cell? w _ h.c0
theorem CNames.below {w w' : World} (h : CNames w) (hb : Below w.heap.size w w') : CNames w' := by
  have hl := h.lt
  exact ⟨(hb.cell (p := ⟨0, _, none⟩) hl).trans h.c0, (hb.cell (p := ⟨0, _, none⟩) hl).trans h.c1, (hb.cell (p := ⟨0, _, none⟩) hl).trans h.c2, (hb.cell (p := ⟨0, _, none⟩) hl).trans h.c3⟩
theorem causeB_is {c : Cause} (h : causeB c = true) : (c.Kind = 1 ∨ c.Kind = 2 ∨ c.Kind = 3) ∧ 1 ≤ c.Number ∧ c.Number ≤ 20 := by
  obtain ⟨⟨h1, h2⟩, h3, h4⟩ := causeB_parts h
  exact ⟨by omega, h3, h4⟩

set_option maxHeartbeats 2000000 in
theorem implCauseText_any (c : Cause) (w : World) (hT : Tab w) (hN : CNames w) :
    Calls Tryz.prog 9 #[.agg #[.int .i64 c.Kind, .int .i64 c.Number]] w fun e w' => e = .returned (.string (causeS c)) ∧ Below w.heap.size w w' := by
  have HT := Lib.hid hT
  have hgl := hN.lt
  have h1 := hN.c1; have h2 := hN.c2; have h3 := hN.c3
  clear hT hN
  rcases Bool.eq_false_or_eq_true (causeB c) with g | g
  · obtain ⟨hk, hn0, hn1⟩ := causeB_is g
    have E := Lib.hid (show causeS c = (wordS c.Kind ++ ⟨#[32]⟩) ++ decS c.Number by rw [causeS, if_pos g])
    have G := Lib.hid g; clear g
    obtain ⟨k, n⟩ := c
    simp only at hk hn0 hn1
    simp only at E
    rcases hk with rfl | rfl | rfl
    · go_enter Tryz.func9, Tryz.ntmps9
      go_wp2_with fail
      refine (asB (isCause_any _ _) G.out).mono ?_; rintro e w1 ⟨rfl, hb1⟩
      obtain ⟨hc1, hf1⟩ := bcell hb1
      have hz1 := hb1.size; simp only [World.size_alloc] at hz1
      have B1 : Below w.heap.size w w1 := bel_tr (by first | (go_grown; done) | (go_split_ands; assumption)) hb1
      have d0 : w1.cell? ⟨w.heap.size, 0, none⟩ = some (.int .i64 1) := (hc1 w.heap.size 0 (by simp)).trans (by go_simp)
      have d1 : w1.cell? ⟨w.heap.size, 1, none⟩ = some (.int .i64 n) := (hc1 w.heap.size 1 (by simp)).trans (by go_simp)
      have gK : w1.cell? ⟨0, 1, none⟩ = some (.string ⟨#[99, 108, 97, 121]⟩) := (B1.cell (p := ⟨0, 1, none⟩) hgl).trans h1
      have HT1 := Lib.hid (HT.out.below B1)
      have hl1 : w.heap.size < w1.heap.size := by omega
      have hl2 : 0 < w1.heap.size := by omega
      have R : Hid (causeS ⟨1, n⟩ = (⟨#[99, 108, 97, 121]⟩ ++ ⟨#[32]⟩) ++ decS n) := E
      have hsz := decS_size n (by omega) (by omega)
      have hcat : ∀ W, (Op.stringOp .add (⟨#[99, 108, 97, 121]⟩ ++ ⟨#[32]⟩) (decS n)).run Tryz.prog W = .ok (.string ((⟨#[99, 108, 97, 121]⟩ ++ ⟨#[32]⟩) ++ decS n)) W := fun W => run_string_add_sum W _ _ (by rw [ByteArray.size_append]; show (_ + 1) + _ ≤ _; show (⟨#[99, 108, 97, 121]⟩ : ByteArray).size + 1 + (decS n).size ≤ 9223372036854775807; have h10 : (⟨#[99, 108, 97, 121]⟩ : ByteArray).size ≤ 10 := (by decide); omega)
      clear hc1 hf1 hb1 h1 h2 h3 E
      go_wp2_with fail
      go_region_held3 (fun w' => w'.cell? ⟨w.heap.size, 0, none⟩ = some (.int .i64 1) ∧ w'.cell? ⟨w.heap.size, 1, none⟩ = some (.int .i64 n) ∧ w'.cell? ⟨0, 1, none⟩ = some (.string ⟨#[99, 108, 97, 121]⟩) ∧ w.heap.size < w'.heap.size ∧ 0 < w'.heap.size ∧ Below w1.heap.size w1 w')
        ((try refine ⟨?_, ?_, ?_, ?_, ?_, ?_⟩) <;> (first | go_keep | (go_grown; done) | (go_split_ands; first | exact (hb1.cell (p := ⟨_, _, none⟩) (by assumption)).trans (by assumption) | exact Nat.lt_of_lt_of_le (by assumption) hb1.size | exact bel_tr (by assumption) hb1)))
        ((go_at_call 23; refine (implDecimal_any n _ (by omega) (by omega) (HT1.out.below (by first | (go_split_ands; assumption) | (go_grown; done)))).mono ?_; rintro e w2 ⟨rfl, hb1⟩))
      all_goals
        go_wp2_with fail
        go_ret
        rw [R.out]
        exact ⟨rfl, by go_split_ands; exact bel_tr B1 (by assumption)⟩
    · go_enter Tryz.func9, Tryz.ntmps9
      go_wp2_with fail
      refine (asB (isCause_any _ _) G.out).mono ?_; rintro e w1 ⟨rfl, hb1⟩
      obtain ⟨hc1, hf1⟩ := bcell hb1
      have hz1 := hb1.size; simp only [World.size_alloc] at hz1
      have B1 : Below w.heap.size w w1 := bel_tr (by first | (go_grown; done) | (go_split_ands; assumption)) hb1
      have d0 : w1.cell? ⟨w.heap.size, 0, none⟩ = some (.int .i64 2) := (hc1 w.heap.size 0 (by simp)).trans (by go_simp)
      have d1 : w1.cell? ⟨w.heap.size, 1, none⟩ = some (.int .i64 n) := (hc1 w.heap.size 1 (by simp)).trans (by go_simp)
      have gK : w1.cell? ⟨0, 2, none⟩ = some (.string ⟨#[109, 111, 117, 108, 100]⟩) := (B1.cell (p := ⟨0, 2, none⟩) hgl).trans h2
      have HT1 := Lib.hid (HT.out.below B1)
      have hl1 : w.heap.size < w1.heap.size := by omega
      have hl2 : 0 < w1.heap.size := by omega
      have R : Hid (causeS ⟨2, n⟩ = (⟨#[109, 111, 117, 108, 100]⟩ ++ ⟨#[32]⟩) ++ decS n) := E
      have hsz := decS_size n (by omega) (by omega)
      have hcat : ∀ W, (Op.stringOp .add (⟨#[109, 111, 117, 108, 100]⟩ ++ ⟨#[32]⟩) (decS n)).run Tryz.prog W = .ok (.string ((⟨#[109, 111, 117, 108, 100]⟩ ++ ⟨#[32]⟩) ++ decS n)) W := fun W => run_string_add_sum W _ _ (by rw [ByteArray.size_append]; show (_ + 1) + _ ≤ _; show (⟨#[109, 111, 117, 108, 100]⟩ : ByteArray).size + 1 + (decS n).size ≤ 9223372036854775807; have h10 : (⟨#[109, 111, 117, 108, 100]⟩ : ByteArray).size ≤ 10 := (by decide); omega)
      clear hc1 hf1 hb1 h1 h2 h3 E
      go_wp2_with fail
      go_region_held3 (fun w' => w'.cell? ⟨w.heap.size, 0, none⟩ = some (.int .i64 2) ∧ w'.cell? ⟨w.heap.size, 1, none⟩ = some (.int .i64 n) ∧ w'.cell? ⟨0, 2, none⟩ = some (.string ⟨#[109, 111, 117, 108, 100]⟩) ∧ w.heap.size < w'.heap.size ∧ 0 < w'.heap.size ∧ Below w1.heap.size w1 w')
        ((try refine ⟨?_, ?_, ?_, ?_, ?_, ?_⟩) <;> (first | go_keep | (go_grown; done) | (go_split_ands; first | exact (hb1.cell (p := ⟨_, _, none⟩) (by assumption)).trans (by assumption) | exact Nat.lt_of_lt_of_le (by assumption) hb1.size | exact bel_tr (by assumption) hb1)))
        ((go_at_call 23; refine (implDecimal_any n _ (by omega) (by omega) (HT1.out.below (by first | (go_split_ands; assumption) | (go_grown; done)))).mono ?_; rintro e w2 ⟨rfl, hb1⟩))
      all_goals
        go_wp2_with fail
        go_ret
        rw [R.out]
        exact ⟨rfl, by go_split_ands; exact bel_tr B1 (by assumption)⟩
    · go_enter Tryz.func9, Tryz.ntmps9
      go_wp2_with fail
      refine (asB (isCause_any _ _) G.out).mono ?_; rintro e w1 ⟨rfl, hb1⟩
      obtain ⟨hc1, hf1⟩ := bcell hb1
      have hz1 := hb1.size; simp only [World.size_alloc] at hz1
      have B1 : Below w.heap.size w w1 := bel_tr (by first | (go_grown; done) | (go_split_ands; assumption)) hb1
      have d0 : w1.cell? ⟨w.heap.size, 0, none⟩ = some (.int .i64 3) := (hc1 w.heap.size 0 (by simp)).trans (by go_simp)
      have d1 : w1.cell? ⟨w.heap.size, 1, none⟩ = some (.int .i64 n) := (hc1 w.heap.size 1 (by simp)).trans (by go_simp)
      have gK : w1.cell? ⟨0, 3, none⟩ = some (.string ⟨#[99, 104, 97, 109, 98, 101, 114]⟩) := (B1.cell (p := ⟨0, 3, none⟩) hgl).trans h3
      have HT1 := Lib.hid (HT.out.below B1)
      have hl1 : w.heap.size < w1.heap.size := by omega
      have hl2 : 0 < w1.heap.size := by omega
      have R : Hid (causeS ⟨3, n⟩ = (⟨#[99, 104, 97, 109, 98, 101, 114]⟩ ++ ⟨#[32]⟩) ++ decS n) := E
      have hsz := decS_size n (by omega) (by omega)
      have hcat : ∀ W, (Op.stringOp .add (⟨#[99, 104, 97, 109, 98, 101, 114]⟩ ++ ⟨#[32]⟩) (decS n)).run Tryz.prog W = .ok (.string ((⟨#[99, 104, 97, 109, 98, 101, 114]⟩ ++ ⟨#[32]⟩) ++ decS n)) W := fun W => run_string_add_sum W _ _ (by rw [ByteArray.size_append]; show (_ + 1) + _ ≤ _; show (⟨#[99, 104, 97, 109, 98, 101, 114]⟩ : ByteArray).size + 1 + (decS n).size ≤ 9223372036854775807; have h10 : (⟨#[99, 104, 97, 109, 98, 101, 114]⟩ : ByteArray).size ≤ 10 := (by decide); omega)
      clear hc1 hf1 hb1 h1 h2 h3 E
      go_wp2_with fail
      go_region_held3 (fun w' => w'.cell? ⟨w.heap.size, 0, none⟩ = some (.int .i64 3) ∧ w'.cell? ⟨w.heap.size, 1, none⟩ = some (.int .i64 n) ∧ w'.cell? ⟨0, 3, none⟩ = some (.string ⟨#[99, 104, 97, 109, 98, 101, 114]⟩) ∧ w.heap.size < w'.heap.size ∧ 0 < w'.heap.size ∧ Below w1.heap.size w1 w')
        ((try refine ⟨?_, ?_, ?_, ?_, ?_, ?_⟩) <;> (first | go_keep | (go_grown; done) | (go_split_ands; first | exact (hb1.cell (p := ⟨_, _, none⟩) (by assumption)).trans (by assumption) | exact Nat.lt_of_lt_of_le (by assumption) hb1.size | exact bel_tr (by assumption) hb1)))
        ((go_at_call 23; refine (implDecimal_any n _ (by omega) (by omega) (HT1.out.below (by first | (go_split_ands; assumption) | (go_grown; done)))).mono ?_; rintro e w2 ⟨rfl, hb1⟩))
      all_goals
        go_wp2_with fail
        go_ret
        rw [R.out]
        exact ⟨rfl, by go_split_ands; exact bel_tr B1 (by assumption)⟩
  · have E := Lib.hid (show causeS c = ⟨#[]⟩ by rw [causeS, g]; rfl)
    have G := Lib.hid g; clear g
    go_enter Tryz.func9, Tryz.ntmps9
    go_wp2_with fail
    refine (asB (isCause_any _ _) G.out).mono ?_; rintro e w1 ⟨rfl, hb1⟩
    go_wp2_with fail
    go_ret
    rw [E.out]
    exact ⟨rfl, bel_tr (by first | (go_grown; done) | (go_split_ands; assumption)) hb1⟩
end Go.Proofs.YtmapjepdcbpalaaGreatDoor
