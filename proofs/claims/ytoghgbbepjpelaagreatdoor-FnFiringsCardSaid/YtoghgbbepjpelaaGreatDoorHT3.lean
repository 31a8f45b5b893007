/- The contract of the program's HeatRulesText. -/
import Derived.Test.YtoghgbbepjpelaaGreatDoorHT2
import Derived.Test.YtoghgbbepjpelaaGreatDoorSP
import Derived.Test.YtoghgbbepjpelaaGreatDoorApN
import Derived.Test.YtoghgbbepjpelaaGreatDoorOwX
namespace Go.Proofs.YtoghgbbepjpelaaGreatDoor
open Go.RowKit
set_option linter.unusedVariables false

theorem join_any (g n c : Nat) (ps : List (List UInt8)) (w : World) (h : StrsAt w g ps) (hg : g < w.heap.size) (hn : ps.length = n) (hc : n ≤ c) (hl : n ≤ 1000) (hj : (Lib.join ps [32]).length ≤ 100000) :
    Calls Tryz.prog 37 #[.slice (some ⟨g, 0, none⟩) n c, .string ⟨#[32]⟩] w fun e w' => e = .returned (.string ⟨(Lib.join ps [32]).toArray⟩) ∧ Below w.heap.size w w' := by
  have e0 : (ps.map fun p => (⟨p.toArray⟩ : ByteArray)).map (·.data.toList) = ps := by rw [List.map_map]; simp [Function.comp_def]
  have hlen : (ps.map fun p => (⟨p.toArray⟩ : ByteArray)).length = n := by rw [List.length_map]; exact hn
  have h2 := Tryz.strings_Join g 0 c (ps.map fun p => (⟨p.toArray⟩ : ByteArray)) ⟨#[32]⟩ w (fun j x hx => by
    rw [List.getElem?_map] at hx
    cases hp : ps[j]? with
    | none => rw [hp] at hx; cases hx
    | some p =>
      rw [hp] at hx
      simp only [Option.map_some, Option.some.injEq] at hx
      rw [← hx, Nat.zero_add]
      exact h j p hp) hg (by rw [hlen]; omega) (by rw [hlen]; exact hc) (by rw [e0]; exact Nat.le_trans hj (by decide))
  rw [e0, hlen] at h2
  exact h2
set_option maxRecDepth 20000 in
set_option maxHeartbeats 8000000 in
theorem implHeatRulesText_any (A : Option Addr) (n c : Nat) (xs : List HeatRule) (w : World) (hA : HeatRuleS w A n xs) (hT : Tab w) :
    Calls Tryz.prog 14 #[.slice A n c] w fun e w' => e = .returned (.string (rulesS xs)) ∧ Below w.heap.size w w' := by
  have HT := Lib.hid hT; clear hT
  rcases Bool.eq_false_or_eq_true (rulesOk xs) with g | g
  · have E := Lib.hid (rulesS_ok g)
    have hl := ok_len g
    rw [hA.len] at hl
    have HW := Lib.hid (fun k (hk : k < xs.length) => wide_of_ok g hk)
    have HL := Lib.hid hA.len
    have G := Lib.hid g; clear g
    go_enter Tryz.func14, Tryz.ntmps14
    go_wp2_with fail
    refine (asB (implValidHeatRules_any _ _ _ xs _ hA) G.out).mono ?_; rintro e w1 ⟨rfl, hb1⟩
    have HO1 := Lib.hid (OwnS.made' (e := 9) (w := w1) (base := w.heap.size) hb1.size rfl)
    have HB1 := Lib.hid (hb1.alloc hb1.size (.cells #[] 9))
    clear hb1
    go_wp2_with fail
    go_loopw [3, 12] (fun v i wr => ∃ k : Nat, k ≤ n ∧ i = .int .i64 k ∧ OwnS wr w.heap.size 9 v (strVs ((xs.take k).map ruleT)) ∧ Below w.heap.size w wr) (fun _ i _ => n - (intOf i).toNat)
    case atStart => exact ⟨0, Nat.zero_le _, rfl, HO1.out, HB1.out⟩
    case round =>
      obtain ⟨k, hk, rfl, hO, hB⟩ := hrel
      obtain ⟨g, cap, rfl, hst, hgl, _⟩ := own_strs hO
      have hlk : ((xs.take k).map ruleT).length = k := by rw [List.length_map, List.length_take, HL.out]; omega
      have HO := Lib.hid hO
      have HST := Lib.hid hst
      have hz := hB.size
      rw [hlk] at HO
      rw [hlk]
      clear hO hst HO1 HB1
      obtain ⟨wo, rfl⟩ : ∃ u : World, u = wr := ⟨_, rfl⟩
      by_cases hlt : k < n
      · obtain ⟨b, off, rfl, hb, hc⟩ := (hA.below hB).cell (by omega)
        obtain ⟨q0, q1, q2⟩ := hc k hlt
        have hkl : k < xs.length := by rw [HL.out]; exact hlt
        obtain ⟨⟨u0, u1⟩, ⟨r0, r1⟩, d0, d1⟩ := HW.out k hkl
        have z1 := decS_nat r0 (by omega); have z2 := decS_nat u0 (by omega); have z3 := decS_nat d0 (by omega)
        have y1 : (⟨#[62]⟩ : ByteArray).size ≤ 1 := by decide
        have y2 : (⟨#[42]⟩ : ByteArray).size ≤ 1 := by decide
        have s1 := hcat_size z1 y1
        have s2 := hcat_size s1 z2
        have s3 := hcat_size s2 y2
        have K1 := hcat_any (P := Tryz.prog) (x := decS (nt xs k).Rise) (y := ⟨#[62]⟩) (by omega) (by omega)
        have K2 := hcat_any (P := Tryz.prog) (x := decS (nt xs k).Rise ++ ⟨#[62]⟩) (y := decS (nt xs k).Upto) (by omega) (by omega)
        have K3 := hcat_any (P := Tryz.prog) (x := (decS (nt xs k).Rise ++ ⟨#[62]⟩) ++ decS (nt xs k).Upto) (y := ⟨#[42]⟩) (by omega) (by omega)
        have K4 := hcat_any (P := Tryz.prog) (x := ((decS (nt xs k).Rise ++ ⟨#[62]⟩) ++ decS (nt xs k).Upto) ++ ⟨#[42]⟩) (y := decS (nt xs k).Hold) (by omega) (by omega)
        have E2 := Lib.hid (show strVs ((xs.take (k + 1)).map ruleT) = strVs ((xs.take k).map ruleT) ++ [.string ((((decS (nt xs k).Rise ++ ⟨#[62]⟩) ++ decS (nt xs k).Upto) ++ ⟨#[42]⟩) ++ decS (nt xs k).Hold)] by
          rw [take_snoc_nt hkl, List.map_append, List.map_cons, List.map_nil, strVs_snoc, ← ruleS_mk]; rfl)
        have HSL := Lib.hid (show (strVs ((xs.take k).map ruleT)).length = k by rw [strVs_len, hlk])
        have W2 : Below wo.heap.size wo (wo.alloc (.cells #[.int .i64 (nt xs k).Upto, .int .i64 (nt xs k).Rise, .int .i64 (nt xs k).Hold] 48)) := (Below.refl _ _).alloc (Nat.le_refl _) _
        have HO2 := HO.out.below W2
        have B2 := bel_tr hB W2
        have d0 : (wo.alloc (.cells #[.int .i64 (nt xs k).Upto, .int .i64 (nt xs k).Rise, .int .i64 (nt xs k).Hold] 48)).cell? ⟨wo.heap.size, 0, none⟩ = some (.int .i64 (nt xs k).Upto) := by go_simp
        have d1 : (wo.alloc (.cells #[.int .i64 (nt xs k).Upto, .int .i64 (nt xs k).Rise, .int .i64 (nt xs k).Hold] 48)).cell? ⟨wo.heap.size, 1, none⟩ = some (.int .i64 (nt xs k).Rise) := by go_simp
        have d2 : (wo.alloc (.cells #[.int .i64 (nt xs k).Upto, .int .i64 (nt xs k).Rise, .int .i64 (nt xs k).Hold] 48)).cell? ⟨wo.heap.size, 2, none⟩ = some (.int .i64 (nt xs k).Hold) := by go_simp
        have hX : wo.heap.size < (wo.alloc (.cells #[.int .i64 (nt xs k).Upto, .int .i64 (nt xs k).Rise, .int .i64 (nt xs k).Hold] 48)).heap.size := by simp
        clear hc z1 z2 z3 y1 y2 s1 s2 s3
        go_wp2_with fail
        generalize wo.alloc (.cells #[.int .i64 (nt xs k).Upto, .int .i64 (nt xs k).Rise, .int .i64 (nt xs k).Hold] 48) = w2 at *
        generalize wo.heap.size = X at *
        have HO2 := Lib.hid HO2
        have hz2 := B2.size
        have HT2 := Lib.hid (HT.out.below B2)
        clear W2
        go_region_law ((first
          | (refine step_appC _ (by rfl) (.tmp 16) (.tmp 30) 60 (by rfl) w.heap.size 9 (.string ⟨#[]⟩) 16 Tryz.underlying60 info_str rfl _ (strVs ((xs.take k).map ruleT)) (.inr (HO2.out.below (by first | exact hb1.alloc hb1.size _ | exact (bel_drew hb1).alloc hb1.size _ | exact bel_drew (hb1.alloc hb1.size _) | exact bel_drew ((bel_drew hb1).alloc hb1.size _)))) (by rfl) (.string ((((decS (nt xs k).Rise ++ ⟨#[62]⟩) ++ decS (nt xs k).Upto) ++ ⟨#[42]⟩) ++ decS (nt xs k).Hold)) wz.heap.size (by rfl) (by go_simp) rfl (by rw [HSL.out]; omega) (by omega) (by first | (simp; omega) | omega) ?_
             intro v5 w5 hO5 hB5 hs5
             have hB6 : Below w.heap.size w2 w5 := Below.trans (Below.mono (B := w2.heap.size) (by first | exact hb1.alloc hb1.size _ | exact (bel_drew hb1).alloc hb1.size _ | exact bel_drew (hb1.alloc hb1.size _) | exact bel_drew ((bel_drew hb1).alloc hb1.size _)) hz2) hB5
             have HO5 := Lib.hid hO5
             have HB6 := Lib.hid hB6
             obtain ⟨g5, cp5, e5, _, _⟩ := hO5
             generalize (strVs ((xs.take k).map ruleT) ++ [Value.string ((((decS (nt xs k).Rise ++ ⟨#[62]⟩) ++ decS (nt xs k).Upto) ++ ⟨#[42]⟩) ++ decS (nt xs k).Hold)]).length = n5 at e5
             subst e5
             clear hB5 hB6)
          | (go_simp
             go_at_call 36
             (with_reducible refine (implDecimal_any _ _ (by omega) (by omega) (HT2.out.below (by first | exact hb1 | exact bel_drew hb1 | exact Below.refl _ _ | exact bel_drew (Below.refl _ _)))).mono ?_)
             rintro e wz ⟨rfl, hbz⟩
             have hb1 : Below w2.heap.size w2 wz := Below.trans (show Below w2.heap.size w2 _ from (by first | exact hb1 | exact bel_drew hb1 | exact Below.refl _ _ | exact bel_drew (Below.refl _ _))) (Below.mono hbz (by first | exact hb1.size | exact Nat.le_refl _))
             have x0 := (hb1.cell (p := ⟨X, 0, none⟩) hX).trans d0
             have x1 := (hb1.cell (p := ⟨X, 1, none⟩) hX).trans d1
             have x2 := (hb1.cell (p := ⟨X, 2, none⟩) hX).trans d2
             have hs1 := hb1.size
             clear hbz)))
        all_goals
          go_wp2_with fail
          go_roundw
          case rel => exact ⟨k + 1, by omega, by go_num, by rw [E2.out]; exact HO5.out, B2.trans HB6.out⟩
          case measure => simp [intOf]; omega
      · obtain rfl : n = k := by omega
        have E3 := Lib.hid (show xs.take n = xs from List.take_of_length_le (by rw [HL.out]; exact Nat.le_refl _))
        have hcap := HO.out.parts.2.2.2.1
        have J := Lib.hid (fun W hb => join_any g n cap ((xs.take n).map ruleT) W (HST.out.below hgl hb) (Nat.lt_of_lt_of_le hgl hb.size) hlk hcap (by omega) (by
          rw [E3.out]
          have := rulesT_len HW.out xs.length (Nat.le_refl _)
          rw [List.take_of_length_le (Nat.le_refl _), HL.out] at this
          show (rulesT xs).length ≤ 100000
          omega))
        go_wp2_with fail
        refine (J.out _ (Below.refl _ _)).mono ?_; rw [E3.out]; rintro e w2 ⟨rfl, hb2⟩
        go_wp2_with fail
        go_ret
        rw [E.out]
        exact ⟨rfl, bel_tr hB hb2⟩
  · have E := Lib.hid (rulesS_no g)
    have G := Lib.hid g; clear g
    go_enter Tryz.func14, Tryz.ntmps14
    go_wp2_with fail
    refine (asB (implValidHeatRules_any _ _ _ xs _ hA) G.out).mono ?_; rintro e w1 ⟨rfl, hb1⟩
    go_wp2_with fail
    go_ret
    rw [E.out]
    exact ⟨rfl, hb1⟩
end Go.Proofs.YtoghgbbepjpelaaGreatDoor
