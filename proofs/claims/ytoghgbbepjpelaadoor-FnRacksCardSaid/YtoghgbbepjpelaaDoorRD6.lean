/- The contracts of the draws that the law on racks reads: racks and numbers, a rack, two lists of racks. -/
import Derived.Test.YtoghgbbepjpelaaDoorRD3
import Derived.Test.YtoghgbbepjpelaaDoorBp
import Derived.Deep.DeepCutAuto
namespace Go.Proofs.YtoghgbbepjpelaaDoor
open Go.RowKit
set_option linter.unusedVariables false

theorem results_tmp5 {fn : Func} {t u v x y : Tmp} (h : fn.results = #[.tmp t, .tmp u, .tmp v, .tmp x, .tmp y]) (tmps : Array Value) (P : Program) (w : World) :
    (results fn tmps).run P w = .ok (.tuple #[tmps.getD t undef, tmps.getD u undef, tmps.getD v undef, tmps.getD x undef, tmps.getD y undef]) w := by
  simp [results, h]
/-- Drawn racks and four numbers. -/
def RacksN4 (w : World) (e : Ending) (w' : World) : Prop := ∃ A n c xs k a b d, e = .returned (.tuple #[.slice A n c, .int .i64 k, .int .i64 a, .int .i64 b, .int .i64 d]) ∧ RackS w' A n xs ∧ n ≤ 25 ∧ Below w.heap.size w w'
/-- Drawn racks and a number. -/
def RacksN (w : World) (e : Ending) (w' : World) : Prop := ∃ A n c xs k, e = .returned (.tuple #[.slice A n c, .int .i64 k]) ∧ RackS w' A n xs ∧ n ≤ 25 ∧ Below w.heap.size w w'
/-- A drawn rack. -/
def OneRack (w : World) (e : Ending) (w' : World) : Prop := ∃ r : Rack, e = .returned (.agg #[.int .i64 r.Room, .int .i64 r.Holds, .int .i64 r.Since, .int .i64 r.Needs]) ∧ Below w.heap.size w w'
/-- Two drawn lists of racks. -/
def TwoRacks (w : World) (e : Ending) (w' : World) : Prop := ∃ A n c xs B k d ys, e = .returned (.tuple #[.slice A n c, .slice B k d]) ∧ RackS w' A n xs ∧ RackS w' B k ys ∧ Below w.heap.size w w'
set_option maxHeartbeats 4000000 in
theorem drawEmptyRack_any (A : Option Addr) (n c : Nat) (w : World) (h : Bys w A n) :
    Calls Tryd.prog 15 #[.slice A n c] w (RacksN w) := by
  have HB := Lib.hid h; clear h
  go_enter Tryd.func15, Tryd.ntmps15
  go_wp2_with fail
  refine (from_any A n c _ HB.out).mono ?_; rintro e w1 ⟨p, rfl, hp, hS, hb1⟩
  have hpl := hS.lt
  have HS := Lib.hid hS; clear hS
  go_wp2_with fail
  refine (bent_any p 0 _ HS.out (by omega) (by omega)).mono ?_; rintro e w2 ⟨A2, n2, c2, xs, rfl, hX, hn2, hS2, hD2, hA⟩
  have HA := Lib.hid (fun b off e => Nat.lt_of_lt_of_le hpl (hA b off e))
  have HX2 := Lib.hid hX
  have HS2 := Lib.hid hS2; have HD2 := Lib.hid (hD2.below hb1 hb1.size hp)
  have hz2 := Nat.le_trans hb1.size hD2.size
  clear hS2 hD2 hX hA
  go_wp2_with fail
  refine (pick_any p _ _ _ HS2.out (by omega)).mono ?_; rintro e w3 ⟨x, rfl, ⟨x0, x1⟩, hS3, hD3⟩
  have HX3 := Lib.hid (HX2.out.keptR hD3 HA.out)
  have HS3 := Lib.hid hS3; have HD3 := Lib.hid (hD3.below HD2.out hz2 hp)
  have hz3 := Nat.le_trans hz2 hD3.size
  clear hS3 hD3 HX2 HS2 HD2
  go_wp2_with fail
  refine (pick_any p 16 _ _ HS3.out (by omega)).mono ?_; rintro e w4 ⟨y, rfl, ⟨y0, y1⟩, hS4, hD4⟩
  have HX4 := Lib.hid (HX3.out.keptR hD4 HA.out)
  have HS4 := Lib.hid hS4; have HD4 := Lib.hid (hD4.below HD3.out hz3 hp)
  have hz4 := Nat.le_trans hz3 hD4.size
  clear hS4 hD4 HX3 HS3 HD3
  go_wp2_with fail
  go_ret2
  exact ⟨A2, n2, c2, xs, _, rfl, HX4.out, hn2, HD4.out⟩
set_option maxHeartbeats 4000000 in
theorem drawSpreadBricks_any (A : Option Addr) (n c : Nat) (w : World) (h : Bys w A n) :
    Calls Tryd.prog 18 #[.slice A n c] w (RacksN w) := by
  have HB := Lib.hid h; clear h
  go_enter Tryd.func18, Tryd.ntmps18
  go_wp2_with fail
  refine (from_any A n c _ HB.out).mono ?_; rintro e w1 ⟨p, rfl, hp, hS, hb1⟩
  have hpl := hS.lt
  have HS := Lib.hid hS; clear hS
  go_wp2_with fail
  refine (bent_any p 0 _ HS.out (by omega) (by omega)).mono ?_; rintro e w2 ⟨A2, n2, c2, xs, rfl, hX, hn2, hS2, hD2, hA⟩
  have HA := Lib.hid (fun b off e => Nat.lt_of_lt_of_le hpl (hA b off e))
  have HX2 := Lib.hid hX
  have HS2 := Lib.hid hS2; have HD2 := Lib.hid (hD2.below hb1 hb1.size hp)
  have hz2 := Nat.le_trans hb1.size hD2.size
  clear hS2 hD2 hX hA
  go_wp2_with fail
  refine (one_any p 10 _ _ HS2.out (by omega)).mono ?_; rintro e w3 ⟨t, rfl, hS3, hD3⟩
  have HX3 := Lib.hid (HX2.out.keptR hD3 HA.out)
  have HS3 := Lib.hid hS3; have HD3 := Lib.hid (hD3.below HD2.out hz2 hp)
  have hz3 := Nat.le_trans hz2 hD3.size
  clear hS3 hD3 HX2 HS2 HD2
  cases t with
  | true =>
    go_wp2_with fail
    refine (among_lit p _ _ [-1, 0, 40000, 40001] 2 HS3.out (by omega) (by simp) (by simp)).mono ?_; rintro e w4 ⟨x, rfl, _, hS4, hD4⟩
    have HX4 := Lib.hid (HX3.out.keptR hD4 HA.out)
    have HS4 := Lib.hid hS4; have HD4 := Lib.hid (hD4.below HD3.out hz3 hp)
    have hz4 := Nat.le_trans hz3 hD4.size
    clear hS4 hD4 HX3 HS3 HD3
    go_wp2_with fail
    go_ret2
    exact ⟨A2, n2, c2, xs, _, rfl, HX4.out, hn2, HD4.out⟩
  | false =>
    go_wp2_with fail
    refine (pick_any p 900 _ _ HS3.out (by omega)).mono ?_; rintro e w4 ⟨x, rfl, ⟨x0, x1⟩, hS4, hD4⟩
    have HX4 := Lib.hid (HX3.out.keptR hD4 HA.out)
    have HS4 := Lib.hid hS4; have HD4 := Lib.hid (hD4.below HD3.out hz3 hp)
    have hz4 := Nat.le_trans hz3 hD4.size
    clear hS4 hD4 HX3 HS3 HD3
    go_wp2_with fail
    go_ret2
    exact ⟨A2, n2, c2, xs, _, rfl, HX4.out, hn2, HD4.out⟩
set_option maxHeartbeats 4000000 in
theorem drawFillRack_any (A : Option Addr) (n c : Nat) (w : World) (h : Bys w A n) :
    Calls Tryd.prog 12 #[.slice A n c] w (RacksN4 w) := by
  have HB := Lib.hid h; clear h
  go_enter Tryd.func12, Tryd.ntmps12
  go_wp2_with fail
  refine (from_any A n c _ HB.out).mono ?_; rintro e w1 ⟨p, rfl, hp, hS, hb1⟩
  have hpl := hS.lt
  have HS := Lib.hid hS; clear hS
  go_wp2_with fail
  refine (bent_any p 0 _ HS.out (by omega) (by omega)).mono ?_; rintro e w2 ⟨A2, n2, c2, xs, rfl, hX, hn2, hS2, hD2, hA⟩
  have HA := Lib.hid (fun b off e => Nat.lt_of_lt_of_le hpl (hA b off e))
  have HX2 := Lib.hid hX
  have HS2 := Lib.hid hS2; have HD2 := Lib.hid (hD2.below hb1 hb1.size hp)
  have hz2 := Nat.le_trans hb1.size hD2.size
  clear hS2 hD2 hX hA
  go_wp2_with fail
  refine (pick_any p _ _ _ HS2.out (by omega)).mono ?_; rintro e w3 ⟨x, rfl, ⟨x0, x1⟩, hS3, hD3⟩
  have HX3 := Lib.hid (HX2.out.keptR hD3 HA.out)
  have HS3 := Lib.hid hS3; have HD3 := Lib.hid (hD3.below HD2.out hz2 hp)
  have hz3 := Nat.le_trans hz2 hD3.size
  clear hS3 hD3 HX2 HS2 HD2
  go_wp2_with fail
  refine (pick_any p 16 _ _ HS3.out (by omega)).mono ?_; rintro e w4 ⟨y, rfl, ⟨y0, y1⟩, hS4, hD4⟩
  have HX4 := Lib.hid (HX3.out.keptR hD4 HA.out)
  have HS4 := Lib.hid hS4; have HD4 := Lib.hid (hD4.below HD3.out hz3 hp)
  have hz4 := Nat.le_trans hz3 hD4.size
  clear hS4 hD4 HX3 HS3 HD3
  go_wp2_with fail
  refine (pick_any p 300 _ _ HS4.out (by omega)).mono ?_; rintro e w5 ⟨b, rfl, ⟨b0, b1⟩, hS5, hD5⟩
  have HX5 := Lib.hid (HX4.out.keptR hD5 HA.out)
  have HS5 := Lib.hid hS5; have HD5 := Lib.hid (hD5.below HD4.out hz4 hp)
  have hz5 := Nat.le_trans hz4 hD5.size
  clear hS5 hD5 HX4 HS4 HD4
  go_wp2_with fail
  refine (pick_any p 20 _ _ HS5.out (by omega)).mono ?_; rintro e w6 ⟨d, rfl, ⟨d0, d1⟩, hS6, hD6⟩
  have HX6 := Lib.hid (HX5.out.keptR hD6 HA.out)
  have HS6 := Lib.hid hS6; have HD6 := Lib.hid (hD6.below HD5.out hz5 hp)
  have hz6 := Nat.le_trans hz5 hD6.size
  clear hS6 hD6 HX5 HS5 HD5
  go_wp2_with fail
  refine (pick_any p 16 _ _ HS6.out (by omega)).mono ?_; rintro e w7 ⟨q, rfl, ⟨q0, q1⟩, hS7, hD7⟩
  have HX7 := Lib.hid (HX6.out.keptR hD7 HA.out)
  have HS7 := Lib.hid hS7; have HD7 := Lib.hid (hD7.below HD6.out hz6 hp)
  have hz7 := Nat.le_trans hz6 hD7.size
  clear hS7 hD7 HX6 HS6 HD6
  have hcase : q = 0 ∨ q = 1 ∨ q = 2 ∨ (q ≠ 0 ∧ q ≠ 1 ∧ q ≠ 2) := by omega
  rcases hcase with rfl | rfl | rfl | ⟨q2, q3, q4⟩
  · go_wp2_with fail
    refine (among_lit p _ _ [-1, 0, 1, 2000, 2001] 2 HS7.out (by omega) (by simp) (by simp)).mono ?_; rintro e w8 ⟨v, rfl, _, hS8, hD8⟩
    have HX8 := Lib.hid (HX7.out.keptR hD8 HA.out)
    have HS8 := Lib.hid hS8; have HD8 := Lib.hid (hD8.below HD7.out hz7 hp)
    have hz8 := Nat.le_trans hz7 hD8.size
    clear hS8 hD8 HX7 HS7 HD7
    go_wp2_with fail
    refine (pick_any p 40 _ _ HS8.out (by omega)).mono ?_; rintro e w9 ⟨z, rfl, ⟨z0, z1⟩, hS9, hD9⟩
    have HX9 := Lib.hid (HX8.out.keptR hD9 HA.out)
    have HS9 := Lib.hid hS9; have HD9 := Lib.hid (hD9.below HD8.out hz8 hp)
    have hz9 := Nat.le_trans hz8 hD9.size
    clear hS9 hD9 HX8 HS8 HD8
    go_wp2_with fail
    (try simp only [Exit.inBlock, Exit.then]); refine bodyPost_ret (results_tmp5 rfl _ _ _) rfl ?_
    exact ⟨A2, n2, c2, xs, _, _, _, _, rfl, HX9.out, hn2, HD9.out⟩
  · go_wp2_with fail
    refine (among_lit p _ _ [-1, 0, 60, 61] 2 HS7.out (by omega) (by simp) (by simp)).mono ?_; rintro e w8 ⟨v, rfl, _, hS8, hD8⟩
    have HX8 := Lib.hid (HX7.out.keptR hD8 HA.out)
    have HS8 := Lib.hid hS8; have HD8 := Lib.hid (hD8.below HD7.out hz7 hp)
    have hz8 := Nat.le_trans hz7 hD8.size
    clear hS8 hD8 HX7 HS7 HD7
    go_wp2_with fail
    refine (pick_any p 40 _ _ HS8.out (by omega)).mono ?_; rintro e w9 ⟨z, rfl, ⟨z0, z1⟩, hS9, hD9⟩
    have HX9 := Lib.hid (HX8.out.keptR hD9 HA.out)
    have HS9 := Lib.hid hS9; have HD9 := Lib.hid (hD9.below HD8.out hz8 hp)
    have hz9 := Nat.le_trans hz8 hD9.size
    clear hS9 hD9 HX8 HS8 HD8
    go_wp2_with fail
    (try simp only [Exit.inBlock, Exit.then]); refine bodyPost_ret (results_tmp5 rfl _ _ _) rfl ?_
    exact ⟨A2, n2, c2, xs, _, _, _, _, rfl, HX9.out, hn2, HD9.out⟩
  · go_wp2_with fail
    refine (among_lit p _ _ [-1, 0, 1000, 1001] 2 HS7.out (by omega) (by simp) (by simp)).mono ?_; rintro e w8 ⟨v, rfl, _, hS8, hD8⟩
    have HX8 := Lib.hid (HX7.out.keptR hD8 HA.out)
    have HS8 := Lib.hid hS8; have HD8 := Lib.hid (hD8.below HD7.out hz7 hp)
    have hz8 := Nat.le_trans hz7 hD8.size
    clear hS8 hD8 HX7 HS7 HD7
    go_wp2_with fail
    (try simp only [Exit.inBlock, Exit.then]); refine bodyPost_ret (results_tmp5 rfl _ _ _) rfl ?_
    exact ⟨A2, n2, c2, xs, _, _, _, _, rfl, HX8.out, hn2, HD8.out⟩
  · have f0 : (q == 0) = false := by simpa using q2
    have f1 : (q == 1) = false := by simpa using q3
    have f2 : (q == 2) = false := by simpa using q4
    go_wp2_with fail
    refine (pick_any p 40 _ _ HS7.out (by omega)).mono ?_; rintro e w8 ⟨z, rfl, ⟨z0, z1⟩, hS8, hD8⟩
    have HX8 := Lib.hid (HX7.out.keptR hD8 HA.out)
    have HS8 := Lib.hid hS8; have HD8 := Lib.hid (hD8.below HD7.out hz7 hp)
    have hz8 := Nat.le_trans hz7 hD8.size
    clear hS8 hD8 HX7 HS7 HD7
    go_wp2_with fail
    (try simp only [Exit.inBlock, Exit.then]); refine bodyPost_ret (results_tmp5 rfl _ _ _) rfl ?_
    exact ⟨A2, n2, c2, xs, _, _, _, _, rfl, HX8.out, hn2, HD8.out⟩
theorem RBox.row {w : World} {b : Nat} {r : Rack} (h : RBox w b r) : RowFRack w b 1 (fun _ => r) :=
  ⟨h.lt, fun j hj => by
    obtain rfl : j = 0 := by omega
    rw [Nat.zero_mul]
    exact ⟨h.c0, h.c1, h.c2, h.c3⟩, h.fz⟩
theorem RBox.drew2 {w w' : World} {b p g : Nat} {r : Rack} (h : RBox w b r) (hD : Drew2 p g w w') (h1 : b ≠ p) (h2 : b ≠ g) : RBox w' b r := by
  have e := hD.block b h.lt h1 h2
  exact ⟨Nat.lt_of_lt_of_le h.lt hD.size, (World.cell?_of_block e).trans h.c0, (World.cell?_of_block e).trans h.c1, (World.cell?_of_block e).trans h.c2, (World.cell?_of_block e).trans h.c3, fun o => (World.frozen?_of_block e).trans (h.fz o)⟩
set_option maxHeartbeats 4000000 in
theorem drawRackText_any (A : Option Addr) (n c : Nat) (w : World) (h : Bys w A n) :
    Calls Tryd.prog 21 #[.slice A n c] w (OneRack w) := by
  have A0 : Below w.heap.size w (w.alloc (.cells #[.int .i64 0, .int .i64 0, .int .i64 0, .int .i64 0] 43)) := (Below.refl _ _).alloc (Nat.le_refl _) _
  have HB := Lib.hid (h.below A0)
  have RA := Lib.hid (RBox.new w ⟨0, 0, 0, 0⟩ 43)
  clear h
  go_enter Tryd.func21, Tryd.ntmps21
  go_wp2_with fail
  refine (from_any A n c _ HB.out).mono ?_; rintro e w1 ⟨p, rfl, hp, hS, hb1⟩
  have hpl := hS.lt
  simp only [World.size_alloc] at hp
  have hz1 := hb1.size; simp only [World.size_alloc] at hz1
  have HS := Lib.hid hS
  have RA1 := Lib.hid (RA.out.below hb1)
  have HB1 := Lib.hid (A0.trans (hb1.mono (by simp)))
  clear hS hb1 RA A0 HB
  go_wp2_with fail
  refine (newR_any p 0 _ HS.out (by omega)).mono ?_; rintro e w2 ⟨r, rfl, hS2, hD2⟩
  have RA2 := Lib.hid (RA1.out.drew hD2 (by omega))
  have HB2 := Lib.hid (hD2.below HB1.out (by omega) (by omega))
  have HS2 := Lib.hid hS2
  have hz2 := hD2.size
  clear hS2 hD2 RA1 HB1 HS
  go_wp2_with fail
  have A2 : Below w2.heap.size w2 (w2.alloc (.cells #[.int .i64 r.Room, .int .i64 r.Holds, .int .i64 r.Since, .int .i64 r.Needs] 43)) := (Below.refl _ _).alloc (Nat.le_refl _) _
  refine (one_any p 5 _ _ (HS2.out.below A2) (by omega)).mono ?_; rintro e w3 ⟨t, rfl, hS3, hD3⟩
  have hz3 := hD3.size; simp only [World.size_alloc] at hz3
  have RA3 := Lib.hid ((RA2.out.below A2).drew hD3 (by omega))
  have RB3 := Lib.hid ((RBox.new w2 r 43).drew hD3 (by omega))
  have HB3 := Lib.hid (hD3.below (HB2.out.trans (A2.mono (by omega))) (by simp; omega) (by omega))
  have HS3 := Lib.hid hS3
  clear hS3 hD3 A2 RA2 HB2 HS2
  cases t with
  | false =>
    obtain ⟨_, a0, a1, a2, a3, af⟩ := RA3.out
    obtain ⟨_, b0, b1, b2, b3, bf⟩ := RB3.out
    have af0 := af 0; have af1 := af 1; have af2 := af 2; have af3 := af 3
    simp only at a0 a1 a2 a3
    have hne : w.heap.size ≠ w2.heap.size := by omega
    clear af bf
    go_wp2_with fail
    refine bodyPost_ret (v := .agg #[.int .i64 r.Room, .int .i64 r.Holds, .int .i64 r.Since, .int .i64 r.Needs]) (by simp [results, Tryd.results21, go_sem, a0, a1, a2, a3]) rfl ⟨r, rfl, ?_⟩
    exact HB3.out.trans (by go_grown)
  | true =>
    have HR3 := Lib.hid RB3.out.row
    have hgl : w2.heap.size ≠ p := by omega
    go_wp2_with fail
    refine (spoil_any p w2.heap.size 1 0 _ (fun _ => r) _ HS3.out (by omega) HR3.out (by omega) (by omega)).mono ?_; rintro e w4 ⟨f, rfl, hR4, hS4, hD4⟩
    have RA4 := Lib.hid (RA3.out.drew2 hD4 (by omega) (by omega))
    have HB4 : Below w.heap.size w w4 := ⟨hD4.os.trans HB3.out.os, hD4.tape.trans HB3.out.tape, hD4.output.trans HB3.out.output, Nat.le_trans HB3.out.size hD4.size, fun k hk => (hD4.block k (Nat.lt_of_lt_of_le hk HB3.out.size) (by omega) (by omega)).trans (HB3.out.block k hk)⟩
    have HB4 := Lib.hid HB4
    obtain ⟨b0, b1, b2, b3⟩ := hR4.cell 0 (by omega)
    obtain ⟨_, a0, a1, a2, a3, af⟩ := RA4.out
    have af0 := af 0; have af1 := af 1; have af2 := af 2; have af3 := af 3
    simp only [Nat.zero_mul, Nat.zero_add] at b0 b1 b2 b3
    simp only at a0 a1 a2 a3
    have hne : w.heap.size ≠ w2.heap.size := by omega
    clear af hD4 hS4 hR4
    go_wp2_with fail
    refine bodyPost_ret (v := .agg #[.int .i64 (f 0).Room, .int .i64 (f 0).Holds, .int .i64 (f 0).Since, .int .i64 (f 0).Needs]) (by simp [results, Tryd.results21, go_sem, a0, a1, a2, a3]) rfl ⟨f 0, rfl, ?_⟩
    exact HB4.out.trans (by go_grown)
end Go.Proofs.YtoghgbbepjpelaaDoor
