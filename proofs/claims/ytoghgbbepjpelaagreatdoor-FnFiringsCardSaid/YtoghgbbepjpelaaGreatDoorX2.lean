/- The contracts of FastestFire and LeastFireHours, the reference's and the program's. -/
import Derived.Test.YtoghgbbepjpelaaGreatDoorX1
import Derived.Test.YtoghgbbepjpelaaGreatDoorLs
import Derived.Test.YtoghgbbepjpelaaGreatDoorAp2
import Derived.Test.YtoghgbbepjpelaaGreatDoorTw
namespace Go.Proofs.YtoghgbbepjpelaaGreatDoor
open Go.RowKit
set_option linter.unusedVariables false

theorem fr_facts {xs : List HeatRule} (h : rulesOk xs = true) : 1 ≤ xs.length ∧ xs.length ≤ 8 := by
  simp only [rulesOk, Bool.and_eq_true, inB_true] at h; omega
theorem fr_rule {xs : List HeatRule} (h : rulesOk xs = true) {k : Nat} (hk : k < xs.length) : (1 ≤ (nt xs k).Upto ∧ (nt xs k).Upto ≤ 1300) ∧ (1 ≤ (nt xs k).Rise ∧ (nt xs k).Rise ≤ 300) ∧ (0 ≤ (nt xs k).Hold ∧ (nt xs k).Hold ≤ 48) := by
  simp only [rulesOk, Bool.and_eq_true] at h
  have h1 := rulesUp_at h.1 hk
  simp only [ruleB, Bool.and_eq_true, inB_true] at h1
  omega
theorem OwnS.one {w : World} {base b : Nat} {e : TypeId} {u : Value} (hb : base ≤ w.heap.size) (hw : w.heap.size = b) : OwnS (w.alloc (.cells #[u] e)) base e (.slice (some ⟨b, 0, none⟩) 1 1) [u] := by
  subst hw
  exact ⟨_, _, rfl, hb, World.ownsRow_lit w #[u] 1 hb (by simp [maxLen]) (by simp)⟩
theorem l00Min_any (a b : Int) (w : World) :
    Calls Tryz.prog 51 #[.int .i64 a, .int .i64 b] w fun e w' => e = .returned (.int .i64 (min a b)) ∧ w = w' := by
  go_enter Tryz.func51, Tryz.ntmps51
  go_wp2
  all_goals (go_ret; exact ⟨ret_int (by omega), rfl⟩)
theorem map_snoc (out : List Int) (v : Int) : (out ++ [v]).map (Value.int .i64) = out.map (Value.int .i64) ++ [.int .i64 v] := by rw [List.map_append]; rfl

def frC (xs : List HeatRule) (start : Int) : Int := if rulesOk xs = true then (if inB start 0 (nt xs 0).Upto = true then 0 else 2) else 1
theorem frC_zero {xs : List HeatRule} {start : Int} (h : frC xs start = 0) : rulesOk xs = true ∧ inB start 0 (nt xs 0).Upto = true := by
  rw [frC] at h
  split at h
  · split at h
    · exact ⟨by assumption, by assumption⟩
    · omega
  · omega
noncomputable def ffrC (xs : List HeatRule) (start : Int) : Int := open Classical in if frC xs start = 0 then (if fsFull xs xs.length start then 5 else 0) else frC xs start
noncomputable def ffrL (xs : List HeatRule) (start : Int) : List Int := if ffrC xs start = 0 then fsEnd xs xs.length start else []
noncomputable def lfhF (xs : List HeatRule) (start : Int) : Int × Int := if ffrC xs start = 0 then (((fsEnd xs xs.length start).length : Int) - 1, 0) else (0, ffrC xs start)
theorem ffr_full {xs : List HeatRule} {start : Int} (h : frC xs start = 0) (hf : fsFull xs xs.length start) : ffrC xs start = 5 ∧ ffrL xs start = [] := by
  have h1 : ffrC xs start = 5 := by rw [ffrC, if_pos h, if_pos hf]
  exact ⟨h1, by rw [ffrL, h1]; rfl⟩
theorem ffr_good {xs : List HeatRule} {start : Int} (h : frC xs start = 0) (hf : ¬ fsFull xs xs.length start) : ffrC xs start = 0 ∧ ffrL xs start = fsEnd xs xs.length start := by
  have h1 : ffrC xs start = 0 := by rw [ffrC, if_pos h, if_neg hf]
  exact ⟨h1, by rw [ffrL, if_pos h1]⟩
theorem ffr_bad {xs : List HeatRule} {start c : Int} (h : frC xs start = c) (hc : c ≠ 0) : ffrC xs start = c ∧ ffrL xs start = [] := by
  have h1 : ffrC xs start = c := by rw [ffrC, if_neg (by rw [h]; exact hc), h]
  exact ⟨h1, by rw [ffrL, if_neg (by rw [h1]; exact hc)]⟩

theorem l16Code_any (A : Option Addr) (n c : Nat) (xs : List HeatRule) (start : Int) (w : World) (hA : HeatRuleS w A n xs) :
    Calls Tryz.prog 27 #[.slice A n c, .int .i64 start] w fun e w' => e = .returned (.int .i64 (frC xs start)) ∧ Below w.heap.size w w' := by
  have hn := hA.bound
  rcases Bool.eq_false_or_eq_true (rulesOk xs) with g | g
  · have hl := (fr_facts g).1
    rw [hA.len] at hl
    obtain ⟨b, off, rfl, hb, hc⟩ := hA.cell (by omega)
    have hx : (nt xs 0).lies w b (off + 0 * 3) := hc 0 (by omega)
    rw [Nat.zero_mul, Nat.add_zero] at hx
    have HX := Lib.hid hx; clear hx hc
    rcases Bool.eq_false_or_eq_true (inB start 0 (nt xs 0).Upto) with g1 | g1
    · have E := Lib.hid (show frC xs start = 0 by rw [frC, if_pos g, if_pos g1])
      have G := Lib.hid g; have G1 := Lib.hid g1; clear g g1
      go_enter Tryz.func27, Tryz.ntmps27
      go_wp2_with fail
      refine (asB (l16Ok_any _ _ _ xs _ hA) G.out).mono ?_; rintro e w1 ⟨rfl, hb1⟩
      obtain ⟨h0, _, _⟩ := HX.out.keep (w' := w1) fun o => hb1.cell (p := ⟨b, o, none⟩) hb
      go_wp2_with fail
      refine (asB (in_any _ _ _ _) G1.out).mono ?_; rintro e w' ⟨rfl, rfl⟩
      go_wp2_with fail
      go_ret
      exact ⟨ret_int E.out.symm, hb1⟩
    · have E := Lib.hid (show frC xs start = 2 by rw [frC, if_pos g, g1]; rfl)
      have G := Lib.hid g; have G1 := Lib.hid g1; clear g g1
      go_enter Tryz.func27, Tryz.ntmps27
      go_wp2_with fail
      refine (asB (l16Ok_any _ _ _ xs _ hA) G.out).mono ?_; rintro e w1 ⟨rfl, hb1⟩
      obtain ⟨h0, _, _⟩ := HX.out.keep (w' := w1) fun o => hb1.cell (p := ⟨b, o, none⟩) hb
      go_wp2_with fail
      refine (asB (in_any _ _ _ _) G1.out).mono ?_; rintro e w' ⟨rfl, rfl⟩
      go_wp2_with fail
      go_ret
      exact ⟨ret_int E.out.symm, hb1⟩
  · have E := Lib.hid (show frC xs start = 1 by rw [frC, g]; rfl)
    have G := Lib.hid g; clear g
    go_enter Tryz.func27, Tryz.ntmps27
    go_wp2_with fail
    refine (asB (l16Ok_any _ _ _ xs _ hA) G.out).mono ?_; rintro e w1 ⟨rfl, hb1⟩
    go_wp2_with fail
    go_ret
    exact ⟨ret_int E.out.symm, hb1⟩

/-- What the reference's way hands back. -/
def FastP (xs : List HeatRule) (start : Int) (w : World) (e : Ending) (w' : World) : Prop :=
  ∃ A n c ok, e = .returned (.tuple #[.slice A n c, .bool ok]) ∧ (ok = false ∧ fsFull xs xs.length start ∨ ok = true ∧ ¬ fsFull xs xs.length start ∧ Ints w' A n (fsEnd xs xs.length start) ∧ Fz w' A ∧ Fresh w w' A ∧ OwnS w' w.heap.size 2 (.slice A n c) ((fsEnd xs xs.length start).map (.int .i64))) ∧ Below w.heap.size w w'
theorem asI {P : Program} {f : FuncId} {args : Array Value} {w : World} {R : World → Prop} {x y : Int}
    (h : Calls P f args w fun e w' => e = .returned (.int .i64 x) ∧ R w') (hx : x = y) : Calls P f args w fun e w' => e = .returned (.int .i64 y) ∧ R w' := by
  subst hx; exact h

set_option maxRecDepth 100000 in
set_option maxHeartbeats 4000000 in
theorem l16Fast_any (A : Option Addr) (n c : Nat) (xs : List HeatRule) (start : Int) (w : World) (hA : HeatRuleS w A n xs) (hC : frC xs start = 0) :
    Calls Tryz.prog 28 #[.slice A n c, .int .i64 start] w (FastP xs start w) := by
  have hn := hA.bound
  obtain ⟨ok, hr⟩ := frC_zero hC
  have hr := inB_true.1 hr
  have hl := fr_facts ok
  have hu := (fr_rule ok (k := 0) (by omega)).1
  rw [hA.len] at hl
  have L := Lib.hid hA.len
  have OK := Lib.hid ok; clear ok hC
  go_enter Tryz.func28, Tryz.ntmps28
  go_wp2
  go_loopw [6, 7, 8] (fun v a1 i wr => ∃ (q k : Nat) (out : List Int) (a : Int), k ≤ n ∧ i = .int .i64 k ∧ a1 = .int .i64 a ∧ fsI xs n start q = ⟨k, 0, out, a⟩ ∧ 0 ≤ a ∧ a ≤ 1300 ∧ (out.length : Int) ≤ 1 + a + 48 * k ∧ OwnS wr w.heap.size 2 v (out.map (.int .i64)) ∧ Below w.heap.size w wr) (fun _ _ i _ => n - (intOf i).toNat)
  case atStart => exact ⟨0, 0, [start], start, Nat.zero_le _, rfl, rfl, rfl, by omega, by omega, by simp; omega, OwnS.one (Nat.le_refl _) rfl, by go_grown⟩
  case round =>
    obtain ⟨q, k, out, a, hk, rfl, rfl, hq, ha0, ha1, hlen, hO, hB⟩ := hrel
    have HQ := Lib.hid hq; clear hq
    have HO := Lib.hid hO; clear hO
    obtain ⟨wo, rfl⟩ : ∃ wo : World, wo = wr := ⟨_, rfl⟩
    by_cases hkn : k < n
    · obtain ⟨⟨u0, u1⟩, ⟨u2, u3⟩, ⟨u4, u5⟩⟩ := fr_rule OK.out (k := k) (by rw [L.out]; exact hkn)
      go_wp2
      go_loopw [6, 7] (fun v a1 wr => ∃ (q : Nat) (out : List Int) (a : Int), a1 = .int .i64 a ∧ fsI xs n start q = ⟨k, 0, out, a⟩ ∧ 0 ≤ a ∧ a ≤ 1300 ∧ (out.length : Int) ≤ 1 + a + 48 * k ∧ OwnS wr w.heap.size 2 v (out.map (.int .i64)) ∧ Below w.heap.size w wr) (fun _ a1 _ => (1300 - intOf a1).toNat)
      case atStart => exact ⟨q, out, a, rfl, HQ.out, ha0, ha1, hlen, HO.out, hB⟩
      case round =>
        clear hB hlen ha0 ha1 HO HQ
        obtain ⟨q, out, a, rfl, hq, ha0, ha1, hlen, hO, hB⟩ := hrel
        have HQ := Lib.hid hq; clear hq
        have HO := Lib.hid hO; clear hO
        have hz := hB.size
        obtain ⟨wc, rfl⟩ : ∃ wc : World, wc = wr := ⟨_, rfl⟩
        obtain ⟨b, off, rfl, hbx, hc⟩ := (hA.below hB).cell (by omega)
        obtain ⟨r0, r1, r2⟩ := hc k hkn
        have HR := Lib.hid (hc k hkn)
        clear hc
        by_cases hau : a < (nt xs k).Upto
        · have F := fs_climb HQ.out hkn hau
          obtain ⟨m, hm⟩ : ∃ m, min (a + (nt xs k).Rise) (nt xs k).Upto = m := ⟨_, rfl⟩
          rw [hm] at F
          have FF := Lib.hid F; clear F
          have hm1 : a < m := by omega
          have hm2 : m ≤ 1300 := by omega
          have HM := Lib.hid (show min (nt xs k).Upto (a + (nt xs k).Rise) = m by omega)
          clear hm
          have HL := Lib.hid (show (out.map (Value.int .i64)).length ≤ 1048576 by rw [List.length_map]; omega)
          have HO2 := Lib.hid (fun q => HO.out.below (below_drewN (Below.refl wc.heap.size wc) q))
          go_wp2_with fail
          go_quiet ((go_at_call 51; exact q_same (asI (l00Min_any _ _ _) HM.out)))
          go_wp2_with (at_builtin; refine wpList_app1 _ rfl (.tmp 39) (.tmp 41) 27 rfl w.heap.size 2 (.int .i64 0) 8 Tryz.underlying27 info_i64 rfl _ _ (HO2.out _) rfl _ _ rfl (by simp) rfl HL.out (by omega) hz ?_; intro v3 w3 hO3 hk3 hs3; obtain ⟨g3, cp3, hv3, _, _⟩ := id hO3; rw [List.length_append, List.length_map, List.length_singleton] at hv3; subst hv3)
          · rename_i hf
            have hB3 := hk3 (Nat.le_refl _) (below_drewN hB _)
            go_ret2
            exact ⟨none, 0, 0, false, rfl, .inl ⟨rfl, by rw [L.out]; exact fs_full FF.out (by simp at hf ⊢; omega)⟩, hB3⟩
          · rename_i hf
            have hB3 := hk3 (Nat.le_refl _) (below_drewN hB _)
            go_roundw
            case rel => exact ⟨q + 1, out ++ [m], m, rfl, FF.out, by omega, by omega, by simp; omega, by rw [map_snoc]; exact hO3, hB3⟩
            case measure => simp [intOf]; omega
        · go_wp2
          go_loopw [6, 9] (fun v i2 wr => ∃ (q h : Nat) (out : List Int), i2 = .int .i64 h ∧ fsI xs n start q = ⟨k, h, out, a⟩ ∧ (h : Int) ≤ (nt xs k).Hold ∧ (out.length : Int) ≤ 1 + a + 48 * k + h ∧ OwnS wr w.heap.size 2 v (out.map (.int .i64)) ∧ Below w.heap.size w wr) (fun _ i2 _ => (48 - intOf i2).toNat)
          case atStart => exact ⟨q, 0, out, rfl, HQ.out, by omega, by omega, HO.out, hB⟩
          case round =>
            clear hB hlen HO HQ r0 r1 r2 hz
            obtain ⟨q, h, out, rfl, hq, hh, hlen, hO, hB⟩ := hrel
            have HQ := Lib.hid hq; clear hq
            have HO := Lib.hid hO; clear hO
            have hz := hB.size
            obtain ⟨b3, off3, he3, hbx3, hc3⟩ := (hA.below hB).cell (by omega)
            simp only [Option.some.injEq, Addr.mk.injEq, and_true] at he3
            obtain ⟨rfl, rfl⟩ := he3
            obtain ⟨r0, r1, r2⟩ := hc3 k hkn
            clear hc3
            by_cases hhl : (h : Int) < (nt xs k).Hold
            · have FF := Lib.hid (fs_hold HQ.out hkn (by omega) hhl)
              have HL := Lib.hid (show (out.map (Value.int .i64)).length ≤ 1048576 by rw [List.length_map]; omega)
              have HO2 := Lib.hid (fun _ : Unit => HO.out)
              go_wp2_with (at_builtin; refine wpList_app1 _ rfl (.tmp 55) (.tmp 57) 27 rfl w.heap.size 2 (.int .i64 0) 8 Tryz.underlying27 info_i64 rfl _ _ (HO2.out ()) rfl _ _ rfl (by simp) rfl HL.out (by omega) hz ?_; intro v3 w3 hO3 hk3 hs3)
              have hB3 := hk3 (Nat.le_refl _) hB
              go_roundw
              case rel => exact ⟨q + 1, h + 1, out ++ [a], by go_num, FF.out, by omega, by simp; omega, by rw [map_snoc]; exact hO3, hB3⟩
              case measure => simp [intOf]; omega
            · have FF := Lib.hid (fs_next HQ.out hkn (by omega) hhl)
              go_wp2
              go_roundw
              case rel => exact ⟨q + 1, k + 1, out, a, by omega, by go_num, rfl, FF.out, by omega, by omega, by simp only [Int.natCast_add, Int.cast_ofNat_Int]; omega, HO.out, hB⟩
              case measure => simp [intOf]; omega
    · obtain rfl : n = k := by omega
      have hlt := hB.size
      have hO' := HO.out
      obtain ⟨g3, cp3, rfl, hg3, hcap, hI3⟩ := HO.out.ints (by omega)
      have hF3 : Fz wo (some ⟨g3, 0, none⟩) := by
        obtain ⟨g', cap', hv, _, ho⟩ := hO'
        simp only [List.length_map, Value.slice.injEq, Option.some.injEq, Addr.mk.injEq, and_true] at hv
        obtain ⟨rfl, _, rfl⟩ := hv
        exact Fz.mk_ fun o => ho.frozenAt o
      have hl3 := hO'.lt
      have hE3 := Lib.hid (fsEnd_eq HQ.out (Nat.le_refl n))
      have hN3 : Fresh w wo (some ⟨g3, 0, none⟩) := fun a' e => by
        simp only [Option.some.injEq] at e
        subst e
        exact ⟨hg3, hl3.2⟩
      have HF3 := Lib.hid hF3; have HN3 := Lib.hid hN3; have HI3 := Lib.hid hI3; clear hF3 hN3 hI3 hO'
      by_cases h200 : out.length ≤ 200
      · have hd : decide ((out.length : Int) ≤ 200) = true := by simp; omega
        go_wp2
        go_ret2
        exact ⟨some ⟨g3, 0, none⟩, out.length, cp3, true, rfl, .inr ⟨rfl, by rw [L.out]; exact fs_notFull HQ.out (Nat.le_refl n) h200, by rw [L.out, hE3.out]; exact HI3.out, HF3.out, HN3.out, by rw [L.out, hE3.out]; exact HO.out⟩, hB⟩
      · have hd : decide ((out.length : Int) ≤ 200) = false := by simp; omega
        go_wp2
        go_ret2
        exact ⟨some ⟨g3, 0, none⟩, out.length, cp3, false, rfl, .inl ⟨rfl, by rw [L.out]; exact fs_full HQ.out (by omega)⟩, hB⟩

set_option maxHeartbeats 1000000 in
theorem specFastestFire_any (A : Option Addr) (n c : Nat) (xs : List HeatRule) (start : Int) (w : World) (hA : HeatRuleS w A n xs) :
    Calls Tryz.prog 7 #[.slice A n c, .int .i64 start] w (ListC (ffrL xs start) (ffrC xs start) w) := by
  by_cases g : frC xs start = 0
  · have G := Lib.hid g; clear g
    go_enter Tryz.func7, Tryz.ntmps7
    go_wp2_with fail
    refine (l16Code_any _ _ _ xs _ _ hA).mono ?_; rw [G.out]; rintro e w1 ⟨rfl, hb1⟩
    go_wp2_with fail
    refine (l16Fast_any _ _ _ xs start _ (hA.below hb1) G.out).mono ?_; rintro e w2 ⟨A2, n2, c2, ok, rfl, h, hb2⟩
    rcases h with ⟨rfl, hf⟩ | ⟨rfl, hf, hI, hF, hN, _⟩
    · have E := Lib.hid (ffr_full G.out hf)
      go_wp2_with fail
      go_ret2
      rw [E.out.1, E.out.2]
      exact ListC.none_ (bel_tr hb1 hb2)
    · have E := Lib.hid (ffr_good G.out hf)
      have HI := Lib.hid hI; have HF := Lib.hid hF; have HN := Lib.hid hN; clear hI hF hN
      go_wp2_with fail
      go_ret2
      rw [E.out.1, E.out.2]
      exact ⟨A2, n2, c2, rfl, HI.out, HF.out, HN.out.mono hb1.size (Nat.le_refl _), bel_tr hb1 hb2⟩
  · have E := Lib.hid (ffr_bad (xs := xs) (start := start) rfl g)
    have g3 : (frC xs start != 0) = true := by simpa using g
    clear g
    go_enter Tryz.func7, Tryz.ntmps7
    go_wp2_with fail
    refine (l16Code_any _ _ _ xs _ _ hA).mono ?_; rintro e w1 ⟨rfl, hb1⟩
    go_wp2_with fail
    go_ret2
    rw [E.out.1, E.out.2]
    exact ListC.none_ hb1

set_option maxHeartbeats 1000000 in
theorem specLeastFireHours_any (A : Option Addr) (n c : Nat) (xs : List HeatRule) (start : Int) (w : World) (hA : HeatRuleS w A n xs) :
    Calls Tryz.prog 9 #[.slice A n c, .int .i64 start] w (Two (lfhF xs start) w) := by
  by_cases g : frC xs start = 0
  · have G := Lib.hid g; clear g
    go_enter Tryz.func9, Tryz.ntmps9
    go_wp2_with fail
    refine (l16Code_any _ _ _ xs _ _ hA).mono ?_; rw [G.out]; rintro e w1 ⟨rfl, hb1⟩
    go_wp2_with fail
    refine (l16Fast_any _ _ _ xs start _ (hA.below hb1) G.out).mono ?_; rintro e w2 ⟨A2, n2, c2, ok, rfl, h, hb2⟩
    rcases h with ⟨rfl, hf⟩ | ⟨rfl, hf, hI, hF, hN, _⟩
    · have E := Lib.hid (show lfhF xs start = (0, 5) by rw [lfhF, (ffr_full G.out hf).1]; rfl)
      go_wp2_with fail
      go_ret2
      exact Two.mk E.out (bel_tr hb1 hb2)
    · have E := Lib.hid (show lfhF xs start = ((n2 : Int) - 1, 0) by rw [lfhF, (ffr_good G.out hf).1, hI.len]; rfl)
      have hb := hI.bound
      clear hI hF hN
      go_wp2_with fail
      go_ret2
      exact Two.mk E.out (bel_tr hb1 hb2)
  · have E := Lib.hid (show lfhF xs start = (0, frC xs start) by rw [lfhF, (ffr_bad (xs := xs) (start := start) rfl g).1, if_neg g])
    have g3 : (frC xs start != 0) = true := by simpa using g
    clear g
    go_enter Tryz.func9, Tryz.ntmps9
    go_wp2_with fail
    refine (l16Code_any _ _ _ xs _ _ hA).mono ?_; rintro e w1 ⟨rfl, hb1⟩
    go_wp2_with fail
    go_ret2
    exact Two.mk E.out hb1

set_option maxRecDepth 100000 in
set_option maxHeartbeats 4000000 in
theorem implFastestFire_any (A : Option Addr) (n c : Nat) (xs : List HeatRule) (start : Int) (w : World) (hA : HeatRuleS w A n xs) :
    Calls Tryz.prog 6 #[.slice A n c, .int .i64 start] w (ListC (ffrL xs start) (ffrC xs start) w) := by
  have hn := hA.bound
  rcases Bool.eq_false_or_eq_true (rulesOk xs) with ok | ok
  · have hl := fr_facts ok
    rw [hA.len] at hl
    have hu := (fr_rule ok (k := 0) (by rw [hA.len]; omega)).1
    have L := Lib.hid hA.len
    have hA0 := hA
    obtain ⟨b0, off0, rfl, hb0, hc0⟩ := hA.cell (by omega)
    have hx : (nt xs 0).lies w b0 (off0 + 0 * 3) := hc0 0 (by omega)
    rw [Nat.zero_mul, Nat.add_zero] at hx
    have HX := Lib.hid hx; clear hx hc0 hA
    rcases Bool.eq_false_or_eq_true (inB start 0 (nt xs 0).Upto) with g1 | g1
    · have HC := Lib.hid (show frC xs start = 0 by rw [frC, if_pos ok, if_pos g1])
      have hr := inB_true.1 g1
      have OK := Lib.hid ok; have G1 := Lib.hid g1; clear ok g1
      go_enter Tryz.func6, Tryz.ntmps6
      go_wp2_with fail
      refine (asB (implValidHeatRules_any _ _ _ xs _ hA0) OK.out).mono ?_; rintro e w1 ⟨rfl, hb1⟩
      obtain ⟨h0, _, _⟩ := HX.out.keep (w' := w1) fun o => hb1.cell (p := ⟨b0, o, none⟩) hb0
      have hz1 := hb1.size
      go_wp2_with fail
      refine (asB (within_any _ _ _ _) G1.out).mono ?_; rintro e w' ⟨rfl, rfl⟩
      go_wp2_with fail
      clear h0
      go_loopw [6, 7, 27] (fun v a1 i wr => ∃ (q k : Nat) (out : List Int) (a : Int), k ≤ n ∧ i = .int .i64 k ∧ a1 = .int .i64 a ∧ fsI xs n start q = ⟨k, 0, out, a⟩ ∧ 0 ≤ a ∧ a ≤ 1300 ∧ (out.length : Int) ≤ 1 + a + 48 * k ∧ OwnS wr w.heap.size 2 v (out.map (.int .i64)) ∧ Below w.heap.size w wr) (fun _ _ i _ => n - (intOf i).toNat)
      case atStart => exact ⟨0, 0, [start], start, Nat.zero_le _, rfl, rfl, rfl, by omega, by omega, by simp; omega, OwnS.one hz1 rfl, bel_tr hb1 (by go_grown)⟩
      case round =>
        obtain ⟨q, k, out, a, hk, rfl, rfl, hq, ha0, ha1, hlen, hO, hB⟩ := hrel
        have HQ := Lib.hid hq; clear hq
        have HO := Lib.hid hO; clear hO
        obtain ⟨wo, rfl⟩ : ∃ wo : World, wo = wr := ⟨_, rfl⟩
        have hz := hB.size
        by_cases hkn : k < n
        · obtain ⟨⟨u0, u1⟩, ⟨u2, u3⟩, ⟨u4, u5⟩⟩ := fr_rule OK.out (k := k) (by rw [L.out]; exact hkn)
          obtain ⟨b3, off3, he3, hbx3, hc3⟩ := (hA0.below hB).cell (by omega)
          simp only [Option.some.injEq, Addr.mk.injEq, and_true] at he3
          obtain ⟨rfl, rfl⟩ := he3
          obtain ⟨y0, y1, y2⟩ := hc3 k hkn
          clear hc3
          go_wp2
          clear y0 y1 y2
          go_loopw [6, 7] (fun v a1 wr => ∃ (q : Nat) (out : List Int) (a : Int), a1 = .int .i64 a ∧ fsI xs n start q = ⟨k, 0, out, a⟩ ∧ 0 ≤ a ∧ a ≤ 1300 ∧ (out.length : Int) ≤ 1 + a + 48 * k ∧ OwnS wr w.heap.size 2 v (out.map (.int .i64)) ∧ Below w.heap.size w wr ∧ wr.cell? ⟨wo.heap.size, 0, none⟩ = some (.int .i64 (nt xs k).Upto) ∧ wr.cell? ⟨wo.heap.size, 1, none⟩ = some (.int .i64 (nt xs k).Rise) ∧ wr.cell? ⟨wo.heap.size, 2, none⟩ = some (.int .i64 (nt xs k).Hold) ∧ wo.heap.size < wr.heap.size ∧ v.ownBlock ≠ some wo.heap.size) (fun _ a1 _ => (1300 - intOf a1).toNat)
          case atStart => exact ⟨q, out, a, rfl, HQ.out, ha0, ha1, hlen, HO.out.alloc _, hB.alloc hz _, by go_simp, by go_simp, by go_simp, by simp, HO.out.ne_new (Nat.le_refl _)⟩
          case round =>
            clear hB hlen ha0 ha1 HO HQ hz
            obtain ⟨q, out, a, rfl, hq, ha0, ha1, hlen, hO, hB, e0, e1, e2, hlr, hvr⟩ := hrel
            have HQ := Lib.hid hq; clear hq
            have HO := Lib.hid hO; clear hO
            have hz := hB.size
            obtain ⟨wc, rfl⟩ : ∃ wc : World, wc = wr := ⟨_, rfl⟩
            by_cases hau : a < (nt xs k).Upto
            · have F := fs_climb HQ.out hkn hau
              obtain ⟨m, hm⟩ : ∃ m, min (a + (nt xs k).Rise) (nt xs k).Upto = m := ⟨_, rfl⟩
              rw [hm] at F
              have FF := Lib.hid F; clear F
              have hm1 : a < m := by omega
              have hm2 : m ≤ 1300 := by omega
              have hmn : (if (nt xs k).Upto < a + (nt xs k).Rise then (nt xs k).Upto else a + (nt xs k).Rise) = m := by split <;> omega
              clear hm
              have HL := Lib.hid (show (out.map (Value.int .i64)).length ≤ 1048576 by rw [List.length_map]; omega)
              go_wp2_with (at_builtin; refine wpList_app1k _ rfl (.tmp 42) (.tmp 44) 27 rfl w.heap.size 2 (.int .i64 0) 8 Tryz.underlying27 info_i64 rfl _ _ (HO.out) rfl _ _ rfl (by simp) rfl HL.out (by omega) hz ?_; intro v3 w3 hO3 hk3 hs3 hr3)
              have hB3 := hk3 (Nat.le_refl _) hB
              obtain ⟨hkc, hkv⟩ := hr3 wo.heap.size hlr hvr
              go_roundw
              case rel => exact ⟨q + 1, out ++ [m], m, rfl, FF.out, by omega, by omega, by simp; omega, by rw [map_snoc]; exact hO3, hB3, (hkc 0).trans e0, (hkc 1).trans e1, (hkc 2).trans e2, by omega, hkv⟩
              case measure => simp [intOf]; omega
            · go_wp2
              go_loopw [6, 48] (fun v i2 wr => ∃ (q h : Nat) (out : List Int), i2 = .int .i64 h ∧ fsI xs n start q = ⟨k, h, out, a⟩ ∧ (h : Int) ≤ (nt xs k).Hold ∧ (out.length : Int) ≤ 1 + a + 48 * k + h ∧ OwnS wr w.heap.size 2 v (out.map (.int .i64)) ∧ Below w.heap.size w wr) (fun _ i2 _ => (48 - intOf i2).toNat)
              case atStart => exact ⟨q, 0, out, rfl, HQ.out, by omega, by omega, HO.out, hB⟩
              case round =>
                clear hB hlen HO HQ hz e0 e1 e2 hlr hvr
                obtain ⟨q, h, out, rfl, hq, hh, hlen, hO, hB⟩ := hrel
                have HQ := Lib.hid hq; clear hq
                have HO := Lib.hid hO; clear hO
                have hz := hB.size
                by_cases hhl : (h : Int) < (nt xs k).Hold
                · have FF := Lib.hid (fs_hold HQ.out hkn (by omega) hhl)
                  have HL := Lib.hid (show (out.map (Value.int .i64)).length ≤ 1048576 by rw [List.length_map]; omega)
                  go_wp2_with (at_builtin; refine wpList_app1k _ rfl (.tmp 50) (.tmp 52) 27 rfl w.heap.size 2 (.int .i64 0) 8 Tryz.underlying27 info_i64 rfl _ _ (HO.out) rfl _ _ rfl (by simp) rfl HL.out (by omega) hz ?_; intro v3 w3 hO3 hk3 hs3 hr3)
                  have hB3 := hk3 (Nat.le_refl _) hB
                  go_roundw
                  case rel => exact ⟨q + 1, h + 1, out ++ [a], by go_num, FF.out, by omega, by simp; omega, by rw [map_snoc]; exact hO3, hB3⟩
                  case measure => simp [intOf]; omega
                · have FF := Lib.hid (fs_next HQ.out hkn (by omega) hhl)
                  go_wp2
                  go_roundw
                  case rel => exact ⟨q + 1, k + 1, out, a, by omega, by go_num, rfl, FF.out, by omega, by omega, by simp only [Int.natCast_add, Int.cast_ofNat_Int]; omega, HO.out, hB⟩
                  case measure => simp [intOf]; omega
        · obtain rfl : n = k := by omega
          have hO' := HO.out
          obtain ⟨g3, cp3, rfl, hg3, hcap, hI3⟩ := HO.out.ints (by omega)
          have hE3 := Lib.hid (fsEnd_eq HQ.out (Nat.le_refl n))
          have HOO := Lib.hid hO'; clear hO' hI3
          by_cases h200 : out.length ≤ 200
          · have hd : decide (200 < (out.length : Int)) = false := by simp; omega
            have E := Lib.hid (ffr_good HC.out (by rw [L.out]; exact fs_notFull HQ.out (Nat.le_refl n) h200))
            go_wp2
            go_ret2
            rw [E.out.1, E.out.2, L.out, hE3.out]
            exact ListC.own HOO.out (by omega) (Nat.le_refl _) hB
          · have hd : decide (200 < (out.length : Int)) = true := by simp; omega
            have E := Lib.hid (ffr_full HC.out (by rw [L.out]; exact fs_full HQ.out (by omega)))
            go_wp2
            go_ret2
            rw [E.out.1, E.out.2]
            exact ListC.none_ hB
    · have E := Lib.hid (ffr_bad (xs := xs) (start := start) (c := 2) (by rw [frC, if_pos ok, g1]; rfl) (by omega))
      have OK := Lib.hid ok; have G1 := Lib.hid g1; clear ok g1
      go_enter Tryz.func6, Tryz.ntmps6
      go_wp2_with fail
      refine (asB (implValidHeatRules_any _ _ _ xs _ hA0) OK.out).mono ?_; rintro e w1 ⟨rfl, hb1⟩
      obtain ⟨h0, _, _⟩ := HX.out.keep (w' := w1) fun o => hb1.cell (p := ⟨b0, o, none⟩) hb0
      go_wp2_with fail
      refine (asB (within_any _ _ _ _) G1.out).mono ?_; rintro e w' ⟨rfl, rfl⟩
      go_wp2_with fail
      go_ret2
      rw [E.out.1, E.out.2]
      exact ListC.none_ hb1
  · have E := Lib.hid (ffr_bad (xs := xs) (start := start) (c := 1) (by rw [frC, ok]; rfl) (by omega))
    have OK := Lib.hid ok; clear ok
    go_enter Tryz.func6, Tryz.ntmps6
    go_wp2_with fail
    refine (asB (implValidHeatRules_any _ _ _ xs _ hA) OK.out).mono ?_; rintro e w1 ⟨rfl, hb1⟩
    go_wp2_with fail
    go_ret2
    rw [E.out.1, E.out.2]
    exact ListC.none_ hb1

set_option maxHeartbeats 1000000 in
theorem implLeastFireHours_any (A : Option Addr) (n c : Nat) (xs : List HeatRule) (start : Int) (w : World) (hA : HeatRuleS w A n xs) :
    Calls Tryz.prog 8 #[.slice A n c, .int .i64 start] w (Two (lfhF xs start) w) := by
  by_cases g : ffrC xs start = 0
  · have G := Lib.hid g
    have G2 := Lib.hid (show ffrL xs start = fsEnd xs xs.length start by rw [ffrL, if_pos g])
    clear g
    go_enter Tryz.func8, Tryz.ntmps8
    go_wp2_with fail
    refine (implFastestFire_any _ _ _ xs start _ hA).mono ?_; rw [G.out, G2.out]; rintro e w1 ⟨A2, n2, c2, rfl, hI, hF, hN, hb1⟩
    have E := Lib.hid (show lfhF xs start = ((n2 : Int) - 1, 0) by rw [lfhF, if_pos G.out, hI.len])
    have hb := hI.bound
    clear hI hF hN
    go_wp2_with fail
    go_ret2
    exact Two.mk E.out hb1
  · have E := Lib.hid (show lfhF xs start = (0, ffrC xs start) by rw [lfhF, if_neg g])
    have g3 : (ffrC xs start != 0) = true := by simpa using g
    clear g
    go_enter Tryz.func8, Tryz.ntmps8
    go_wp2_with fail
    refine (implFastestFire_any _ _ _ xs start _ hA).mono ?_; rintro e w1 ⟨A2, n2, c2, rfl, hI, hF, hN, hb1⟩
    clear hI hF hN
    go_wp2_with fail
    go_ret2
    exact Two.mk E.out hb1
end Go.Proofs.YtoghgbbepjpelaaGreatDoor
