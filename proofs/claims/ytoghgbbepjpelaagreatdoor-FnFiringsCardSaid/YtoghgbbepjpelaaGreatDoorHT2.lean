/- The contracts of HeatRulesText, the reference's and the program's. -/
import Derived.Test.YtoghgbbepjpelaaGreatDoorHT0
import Derived.Test.YtoghgbbepjpelaaGreatDoorN2
namespace Go.Proofs.YtoghgbbepjpelaaGreatDoor
open Go.RowKit
set_option linter.unusedVariables false

theorem hcat_any {P : Program} {x y : ByteArray} (hx : x.size ≤ 100000) (hy : y.size ≤ 100000) : ∀ W : World, (Op.stringOp .add x y).run P W = .ok (.string (x ++ y)) W := fun W => run_string_add_sum W _ _ (by omega)
theorem hcat_size {x y : ByteArray} {a b : Nat} (hx : x.size ≤ a) (hy : y.size ≤ b) : (x ++ y).size ≤ a + b := by rw [ByteArray.size_append]; omega
/-- The first rules as a text. -/
def textK (xs : List HeatRule) (k : Nat) : ByteArray := ⟨(rulesT (xs.take k)).toArray⟩
def ruleS (r : HeatRule) : ByteArray := (((decS r.Rise ++ ⟨#[62]⟩) ++ decS r.Upto) ++ ⟨#[42]⟩) ++ decS r.Hold
theorem ruleS_list (r : HeatRule) : (ruleS r).data.toList = ruleT r := by simp [ruleS, ruleT, ByteArray.data_append, decS]
theorem ruleS_mk (r : HeatRule) : ruleS r = ⟨(ruleT r).toArray⟩ := by
  apply Go.WideShapes.bytes_inj
  rw [ruleS_list]
theorem textK_zero (xs : List HeatRule) : textK xs 0 = ⟨#[]⟩ := rfl
theorem textK_one {xs : List HeatRule} (h : 0 < xs.length) : textK xs (0 + 1) = ⟨#[]⟩ ++ ruleS (nt xs 0) := by
  apply Go.WideShapes.bytes_inj
  rw [textK, rulesT_one h, ByteArray.data_append]
  simp [ruleS_list]
theorem textK_succ {xs : List HeatRule} {k : Nat} (h : k < xs.length) (hk : 0 < k) : textK xs (k + 1) = (textK xs k ++ ⟨#[32]⟩) ++ ruleS (nt xs k) := by
  apply Go.WideShapes.bytes_inj
  rw [textK, rulesT_succ h hk]
  simp [ByteArray.data_append, textK, ruleS_list]
theorem textK_size {xs : List HeatRule} (h : ∀ k, k < xs.length → wideR (nt xs k)) {k : Nat} (hk : k ≤ xs.length) : (textK xs k).size ≤ 66 * k := by
  have := rulesT_len h k hk
  rw [Lib.size_eq]
  simpa [textK] using this
theorem textK_all {xs : List HeatRule} {k : Nat} (h : xs.length ≤ k) : textK xs k = ⟨(rulesT xs).toArray⟩ := by rw [textK, List.take_of_length_le h]
theorem decS_nat {n : Int} (h0 : 0 ≤ n) (h1 : n ≤ 9999) : (decS n).size ≤ 21 := decS_size n (by omega) (by omega)

set_option maxHeartbeats 4000000 in
theorem l16Text_any (A : Option Addr) (n c : Nat) (xs : List HeatRule) (w : World) (hA : HeatRuleS w A n xs) (hn : n ≤ 8) (hw : ∀ k, k < xs.length → wideR (nt xs k)) :
    Calls Tryz.prog 41 #[.slice A n c] w fun e w' => e = .returned (.string ⟨(rulesT xs).toArray⟩) ∧ Below w.heap.size w w' := by
  have HW := Lib.hid hw
  have HL := Lib.hid hA.len
  clear hw
  go_enter Tryz.func41, Tryz.ntmps41
  go_wp2_with fail
  go_loopw [3, 4] (fun s i wr => ∃ (k : Nat) (o : ByteArray), k ≤ n ∧ i = .int .i64 k ∧ s = .string o ∧ o = textK xs k ∧ Below w.heap.size w wr) (fun _ i _ => n - (intOf i).toNat)
  case atStart => exact ⟨0, _, Nat.zero_le _, rfl, rfl, textK_zero xs, Below.refl _ _⟩
  case round =>
    obtain ⟨k, o, hk, rfl, rfl, ho, hB⟩ := hrel
    have HO := Lib.hid ho
    have hos : o.size ≤ 66 * k := by rw [ho]; exact textK_size HW.out (by rw [HL.out]; exact hk)
    clear ho
    obtain ⟨wo, rfl⟩ : ∃ u : World, u = wr := ⟨_, rfl⟩
    by_cases hlt : k < n
    · obtain ⟨b, off, rfl, hb, hc⟩ := (hA.below hB).cell (by omega)
      obtain ⟨q0, q1, q2⟩ := hc k hlt
      have hkl : k < xs.length := by rw [HL.out]; exact hlt
      obtain ⟨⟨u0, u1⟩, ⟨r0, r1⟩, d0, d1⟩ := HW.out k hkl
      have z1 := decS_nat r0 (by omega); have z2 := decS_nat u0 (by omega); have z3 := decS_nat d0 (by omega)
      have y1 : (⟨#[62]⟩ : ByteArray).size ≤ 1 := by decide
      have y2 : (⟨#[42]⟩ : ByteArray).size ≤ 1 := by decide
      have y3 : (⟨#[32]⟩ : ByteArray).size ≤ 1 := by decide
      have s1 := hcat_size z1 y1
      have s2 := hcat_size s1 z2
      have s3 := hcat_size s2 y2
      have s4 := hcat_size s3 z3
      have s5 := hcat_size hos y3
      have K1 := hcat_any (P := Tryz.prog) (x := decS (nt xs k).Rise) (y := ⟨#[62]⟩) (by omega) (by omega)
      have K2 := hcat_any (P := Tryz.prog) (x := decS (nt xs k).Rise ++ ⟨#[62]⟩) (y := decS (nt xs k).Upto) (by omega) (by omega)
      have K3 := hcat_any (P := Tryz.prog) (x := (decS (nt xs k).Rise ++ ⟨#[62]⟩) ++ decS (nt xs k).Upto) (y := ⟨#[42]⟩) (by omega) (by omega)
      have K4 := hcat_any (P := Tryz.prog) (x := ((decS (nt xs k).Rise ++ ⟨#[62]⟩) ++ decS (nt xs k).Upto) ++ ⟨#[42]⟩) (y := decS (nt xs k).Hold) (by omega) (by omega)
      have K5 := hcat_any (P := Tryz.prog) (x := o) (y := ⟨#[32]⟩) (by omega) (by omega)
      have K6 := hcat_any (P := Tryz.prog) (x := o ++ ⟨#[32]⟩) (y := (((decS (nt xs k).Rise ++ ⟨#[62]⟩) ++ decS (nt xs k).Upto) ++ ⟨#[42]⟩) ++ decS (nt xs k).Hold) (by omega) (by omega)
      have K7 := hcat_any (P := Tryz.prog) (x := o) (y := (((decS (nt xs k).Rise ++ ⟨#[62]⟩) ++ decS (nt xs k).Upto) ++ ⟨#[42]⟩) ++ decS (nt xs k).Hold) (by omega) (by omega)
      clear hc z1 z2 z3 y1 y2 y3 s1 s2 s3 s4 s5 hos
      rcases Nat.eq_zero_or_pos k with hz | hp
      · subst hz
        have E := Lib.hid (show o ++ ((((decS (nt xs 0).Rise ++ ⟨#[62]⟩) ++ decS (nt xs 0).Upto) ++ ⟨#[42]⟩) ++ decS (nt xs 0).Hold) = textK xs (0 + 1) by rw [textK_one hkl, HO.out]; rfl)
        simp only [Nat.zero_mul, Nat.add_zero] at q0 q1 q2
        go_wp2_with fail
        go_region_held3 (fun w' => w'.cell? ⟨b, off, none⟩ = some (.int .i64 (nt xs 0).Upto) ∧ w'.cell? ⟨b, off + 1, none⟩ = some (.int .i64 (nt xs 0).Rise) ∧ w'.cell? ⟨b, off + 2, none⟩ = some (.int .i64 (nt xs 0).Hold) ∧ b < w'.heap.size ∧ Below wo.heap.size wo w')
          ((try refine ⟨?_, ?_, ?_, ?_, ?_⟩) <;> (first | go_keep | (go_grown; done) | (go_split_ands; first | exact (hb1.cell (p := ⟨_, _, none⟩) (by assumption)).trans (by assumption) | exact Nat.lt_of_lt_of_le (by assumption) hb1.size | exact bel_tr (by assumption) hb1)))
          ((go_at_call 62; (with_reducible refine (l01Dec_any _ _ (by omega) (by omega)).mono ?_); rintro e wz ⟨rfl, hb1⟩))
        go_split_ands
        rename Below wo.heap.size wo _ => hb2
        go_wp2_with fail
        go_roundw
        case rel => exact ⟨1, _, by omega, by go_num, rfl, E.out, bel_tr hB hb2⟩
        case measure => simp [intOf]; omega
      · have E := Lib.hid (show (o ++ ⟨#[32]⟩) ++ ((((decS (nt xs k).Rise ++ ⟨#[62]⟩) ++ decS (nt xs k).Upto) ++ ⟨#[42]⟩) ++ decS (nt xs k).Hold) = textK xs (k + 1) by rw [textK_succ hkl hp, HO.out]; rfl)
        have hp2 : (0 : Int) < (k : Int) := by omega
        go_wp2_with fail
        go_region_held3 (fun w' => w'.cell? ⟨b, off + k * 3, none⟩ = some (.int .i64 (nt xs k).Upto) ∧ w'.cell? ⟨b, off + k * 3 + 1, none⟩ = some (.int .i64 (nt xs k).Rise) ∧ w'.cell? ⟨b, off + k * 3 + 2, none⟩ = some (.int .i64 (nt xs k).Hold) ∧ b < w'.heap.size ∧ Below wo.heap.size wo w')
          ((try refine ⟨?_, ?_, ?_, ?_, ?_⟩) <;> (first | go_keep | (go_grown; done) | (go_split_ands; first | exact (hb1.cell (p := ⟨_, _, none⟩) (by assumption)).trans (by assumption) | exact Nat.lt_of_lt_of_le (by assumption) hb1.size | exact bel_tr (by assumption) hb1)))
          ((go_at_call 62; (with_reducible refine (l01Dec_any _ _ (by omega) (by omega)).mono ?_); rintro e wz ⟨rfl, hb1⟩))
        go_split_ands
        rename Below wo.heap.size wo _ => hb2
        go_wp2_with fail
        go_roundw
        case rel => exact ⟨k + 1, _, by omega, by go_num, rfl, E.out, bel_tr hB hb2⟩
        case measure => simp [intOf]; omega
    · obtain rfl : n = k := by omega
      have E := Lib.hid (show o = ⟨(rulesT xs).toArray⟩ by rw [HO.out, textK_all (by rw [HL.out]; exact Nat.le_refl _)])
      go_wp2_with fail
      go_ret
      rw [E.out]
      exact ⟨rfl, hB⟩
theorem specHeatRulesText_any (A : Option Addr) (n c : Nat) (xs : List HeatRule) (w : World) (hA : HeatRuleS w A n xs) :
    Calls Tryz.prog 20 #[.slice A n c] w fun e w' => e = .returned (.string (rulesS xs)) ∧ Below w.heap.size w w' := by
  rcases Bool.eq_false_or_eq_true (rulesOk xs) with g | g
  · have E := Lib.hid (rulesS_ok g)
    have hl := ok_len g
    rw [hA.len] at hl
    have HW := Lib.hid (fun k (hk : k < xs.length) => wide_of_ok g hk)
    have G := Lib.hid g; clear g
    go_enter Tryz.func20, Tryz.ntmps20
    go_wp2_with fail
    refine (asB (l16Ok_any _ _ _ xs _ hA) G.out).mono ?_; rintro e w1 ⟨rfl, hb1⟩
    go_wp2_with fail
    refine (l16Text_any _ _ _ xs _ (hA.below hb1) (by omega) HW.out).mono ?_; rintro e w2 ⟨rfl, hb2⟩
    go_wp2_with fail
    go_ret
    rw [E.out]
    exact ⟨rfl, bel_tr hb1 hb2⟩
  · have E := Lib.hid (rulesS_no g)
    have G := Lib.hid g; clear g
    go_enter Tryz.func20, Tryz.ntmps20
    go_wp2_with fail
    refine (asB (l16Ok_any _ _ _ xs _ hA) G.out).mono ?_; rintro e w1 ⟨rfl, hb1⟩
    go_wp2_with fail
    go_ret
    rw [E.out]
    exact ⟨rfl, hb1⟩
end Go.Proofs.YtoghgbbepjpelaaGreatDoor
