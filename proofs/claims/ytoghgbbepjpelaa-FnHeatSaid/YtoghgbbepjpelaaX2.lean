/- The contracts of FastestFire and LeastFireHours, the reference's and the program's. -/
import Derived.Test.YtoghgbbepjpelaaX1
import Derived.Test.YtoghgbbepjpelaaLs
import Derived.Test.YtoghgbbepjpelaaAp2
import Derived.Test.YtoghgbbepjpelaaTw
namespace Go.Proofs.Ytoghgbbepjpelaa
open Go.RowKit
set_option linter.unusedVariables false

theorem fr_facts {xs : List HeatRule} (h : rulesOk xs = true) : 1 ≤ xs.length ∧ xs.length ≤ 8 := by
  simp only [rulesOk, Bool.and_eq_true, inB_true] at h; omega
theorem fr_rule {xs : List HeatRule} (h : rulesOk xs = true) {k : Nat} (hk : k < xs.length) : (1 ≤ (nt xs k).Upto ∧ (nt xs k).Upto ≤ 1300) ∧ (1 ≤ (nt xs k).Rise ∧ (nt xs k).Rise ≤ 300) ∧ (0 ≤ (nt xs k).Hold ∧ (nt xs k).Hold ≤ 48) := by
  simp only [rulesOk, Bool.and_eq_true] at h
  have h1 := rulesUp_at h.1 hk
  simp only [ruleB, Bool.and_eq_true, inB_true] at h1
  omega
theorem OwnS.one {w : World} {base b : Nat} {e : TypeId} {u : Value} (hb : base ≤ w.heap.size) (hw : w.heap.size = b) : OwnS (w.alloc (.cells #[u] e)) base e (.slice (some ⟨b, 0, none⟩) 1 1) [u] := by
  subst hw
  exact ⟨_, _, rfl, hb, World.ownsRow_lit w #[u] 1 hb (by simp [maxLen]) (by simp)⟩
theorem l00Min_any (a b : Int) (w : World) :
    Calls Try.prog 116 #[.int .i64 a, .int .i64 b] w fun e w' => e = .returned (.int .i64 (min a b)) ∧ w = w' := by
  go_enter Try.func116, Try.ntmps116
  go_wp2
  all_goals (go_ret; exact ⟨ret_int (by omega), rfl⟩)
theorem map_snoc (out : List Int) (v : Int) : (out ++ [v]).map (Value.int .i64) = out.map (Value.int .i64) ++ [.int .i64 v] := by rw [List.map_append]; rfl

def frC (xs : List HeatRule) (start : Int) : Int := if rulesOk xs = true then (if inB start 0 (nt xs 0).Upto = true then 0 else 2) else 1
theorem frC_zero {xs : List HeatRule} {start : Int} (h : frC xs start = 0) : rulesOk xs = true ∧ inB start 0 (nt xs 0).Upto = true := by
  rw [frC] at h
  split at h
  · split at h
    · exact ⟨by assumption, by assumption⟩
    · omega
  · omega
noncomputable def ffrC (xs : List HeatRule) (start : Int) : Int := open Classical in if frC xs start = 0 then (if fsFull xs xs.length start then 5 else 0) else frC xs start
noncomputable def ffrL (xs : List HeatRule) (start : Int) : List Int := if ffrC xs start = 0 then fsEnd xs xs.length start else []
noncomputable def lfhF (xs : List HeatRule) (start : Int) : Int × Int := if ffrC xs start = 0 then (((fsEnd xs xs.length start).length : Int) - 1, 0) else (0, ffrC xs start)
theorem ffr_full {xs : List HeatRule} {start : Int} (h : frC xs start = 0) (hf : fsFull xs xs.length start) : ffrC xs start = 5 ∧ ffrL xs start = [] := by
  have h1 : ffrC xs start = 5 := by rw [ffrC, if_pos h, if_pos hf]
  exact ⟨h1, by rw [ffrL, h1]; rfl⟩
theorem ffr_good {xs : List HeatRule} {start : Int} (h : frC xs start = 0) (hf : ¬ fsFull xs xs.length start) : ffrC xs start = 0 ∧ ffrL xs start = fsEnd xs xs.length start := by
  have h1 : ffrC xs start = 0 := by rw [ffrC, if_pos h, if_neg hf]
  exact ⟨h1, by rw [ffrL, if_pos h1]⟩
theorem ffr_bad {xs : List HeatRule} {start c : Int} (h : frC xs start = c) (hc : c ≠ 0) : ffrC xs start = c ∧ ffrL xs start = [] := by
  have h1 : ffrC xs start = c := by rw [ffrC, if_neg (by rw [h]; exact hc), h]
  exact ⟨h1, by rw [ffrL, if_neg (by rw [h1]; exact hc)]⟩

/-- What the reference's way hands back. -/
def FastP (xs : List HeatRule) (start : Int) (w : World) (e : Ending) (w' : World) : Prop :=
  ∃ A n c ok, e = .returned (.tuple #[.slice A n c, .bool ok]) ∧ (ok = false ∧ fsFull xs xs.length start ∨ ok = true ∧ ¬ fsFull xs xs.length start ∧ Ints w' A n (fsEnd xs xs.length start) ∧ Fz w' A ∧ Fresh w w' A ∧ OwnS w' w.heap.size 2 (.slice A n c) ((fsEnd xs xs.length start).map (.int .i64))) ∧ Below w.heap.size w w'
theorem asI {P : Program} {f : FuncId} {args : Array Value} {w : World} {R : World → Prop} {x y : Int}
    (h : Calls P f args w fun e w' => e = .returned (.int .i64 x) ∧ R w') (hx : x = y) : Calls P f args w fun e w' => e = .returned (.int .i64 y) ∧ R w' := by
  subst hx; exact h

set_option maxRecDepth 100000 in
set_option maxHeartbeats 4000000 in
theorem l16Fast_any (A : Option Addr) (n c : Nat) (xs : List HeatRule) (start : Int) (w : World) (hA : HeatRuleS w A n xs) (hC : frC xs start = 0) :
    Calls Try.prog 97 #[.slice A n c, .int .i64 start] w (FastP xs start w) := by
  have hn := hA.bound
  obtain ⟨ok, hr⟩ := frC_zero hC
  have hr := inB_true.1 hr
  have hl := fr_facts ok
  have hu := (fr_rule ok (k := 0) (by omega)).1
  rw [hA.len] at hl
  have L := Lib.hid hA.len
  have OK := Lib.hid ok; clear ok hC
  go_enter Try.func97, Try.ntmps97
  go_wp2
  go_loopw [6, 7, 8] (fun v a1 i wr => ∃ (q k : Nat) (out : List Int) (a : Int), k ≤ n ∧ i = .int .i64 k ∧ a1 = .int .i64 a ∧ fsI xs n start q = ⟨k, 0, out, a⟩ ∧ 0 ≤ a ∧ a ≤ 1300 ∧ (out.length : Int) ≤ 1 + a + 48 * k ∧ OwnS wr w.heap.size 2 v (out.map (.int .i64)) ∧ Below w.heap.size w wr) (fun _ _ i _ => n - (intOf i).toNat)
  case atStart => exact ⟨0, 0, [start], start, Nat.zero_le _, rfl, rfl, rfl, by omega, by omega, by simp; omega, OwnS.one (Nat.le_refl _) rfl, by go_grown⟩
  case round =>
    obtain ⟨q, k, out, a, hk, rfl, rfl, hq, ha0, ha1, hlen, hO, hB⟩ := hrel
    have HQ := Lib.hid hq; clear hq
    have HO := Lib.hid hO; clear hO
    obtain ⟨wo, rfl⟩ : ∃ wo : World, wo = wr := ⟨_, rfl⟩
    by_cases hkn : k < n
    · obtain ⟨⟨u0, u1⟩, ⟨u2, u3⟩, ⟨u4, u5⟩⟩ := fr_rule OK.out (k := k) (by rw [L.out]; exact hkn)
      go_wp2
      go_loopw [6, 7] (fun v a1 wr => ∃ (q : Nat) (out : List Int) (a : Int), a1 = .int .i64 a ∧ fsI xs n start q = ⟨k, 0, out, a⟩ ∧ 0 ≤ a ∧ a ≤ 1300 ∧ (out.length : Int) ≤ 1 + a + 48 * k ∧ OwnS wr w.heap.size 2 v (out.map (.int .i64)) ∧ Below w.heap.size w wr) (fun _ a1 _ => (1300 - intOf a1).toNat)
      case atStart => exact ⟨q, out, a, rfl, HQ.out, ha0, ha1, hlen, HO.out, hB⟩
      case round =>
        clear hB hlen ha0 ha1 HO HQ
        obtain ⟨q, out, a, rfl, hq, ha0, ha1, hlen, hO, hB⟩ := hrel
        have HQ := Lib.hid hq; clear hq
        have HO := Lib.hid hO; clear hO
        have hz := hB.size
        obtain ⟨wc, rfl⟩ : ∃ wc : World, wc = wr := ⟨_, rfl⟩
        obtain ⟨b, off, rfl, hbx, hc⟩ := (hA.below hB).cell (by omega)
        obtain ⟨r0, r1, r2⟩ := hc k hkn
        have HR := Lib.hid (hc k hkn)
        clear hc
        by_cases hau : a < (nt xs k).Upto
        · have F := fs_climb HQ.out hkn hau
          obtain ⟨m, hm⟩ : ∃ m, min (a + (nt xs k).Rise) (nt xs k).Upto = m := ⟨_, rfl⟩
          rw [hm] at F
          have FF := Lib.hid F; clear F
          have hm1 : a < m := by omega
          have hm2 : m ≤ 1300 := by omega
          have HM := Lib.hid (show min (nt xs k).Upto (a + (nt xs k).Rise) = m by omega)
          clear hm
          have HL := Lib.hid (show (out.map (Value.int .i64)).length ≤ 1048576 by rw [List.length_map]; omega)
          have HO2 := Lib.hid (fun q => HO.out.below (below_drewN (Below.refl wc.heap.size wc) q))
          go_wp2_with fail
          go_quiet ((go_at_call 116; exact q_same (asI (l00Min_any _ _ _) HM.out)))
          go_wp2_with (at_builtin; refine wpList_app1 _ rfl (.tmp 39) (.tmp 41) 24 rfl w.heap.size 2 (.int .i64 0) 8 Try.underlying24 info_i64 rfl _ _ (HO2.out _) rfl _ _ rfl (by simp) rfl HL.out (by omega) hz ?_; intro v3 w3 hO3 hk3 hs3; obtain ⟨g3, cp3, hv3, _, _⟩ := id hO3; rw [List.length_append, List.length_map, List.length_singleton] at hv3; subst hv3)
          · rename_i hf
            have hB3 := hk3 (Nat.le_refl _) (below_drewN hB _)
            go_ret2
            exact ⟨none, 0, 0, false, rfl, .inl ⟨rfl, by rw [L.out]; exact fs_full FF.out (by simp at hf ⊢; omega)⟩, hB3⟩
          · rename_i hf
            have hB3 := hk3 (Nat.le_refl _) (below_drewN hB _)
            go_roundw
            case rel => exact ⟨q + 1, out ++ [m], m, rfl, FF.out, by omega, by omega, by simp; omega, by rw [map_snoc]; exact hO3, hB3⟩
            case measure => simp [intOf]; omega
        · go_wp2
          go_loopw [6, 9] (fun v i2 wr => ∃ (q h : Nat) (out : List Int), i2 = .int .i64 h ∧ fsI xs n start q = ⟨k, h, out, a⟩ ∧ (h : Int) ≤ (nt xs k).Hold ∧ (out.length : Int) ≤ 1 + a + 48 * k + h ∧ OwnS wr w.heap.size 2 v (out.map (.int .i64)) ∧ Below w.heap.size w wr) (fun _ i2 _ => (48 - intOf i2).toNat)
          case atStart => exact ⟨q, 0, out, rfl, HQ.out, by omega, by omega, HO.out, hB⟩
          case round =>
            clear hB hlen HO HQ r0 r1 r2 hz
            obtain ⟨q, h, out, rfl, hq, hh, hlen, hO, hB⟩ := hrel
            have HQ := Lib.hid hq; clear hq
            have HO := Lib.hid hO; clear hO
            have hz := hB.size
            obtain ⟨b3, off3, he3, hbx3, hc3⟩ := (hA.below hB).cell (by omega)
            simp only [Option.some.injEq, Addr.mk.injEq, and_true] at he3
            obtain ⟨rfl, rfl⟩ := he3
            obtain ⟨r0, r1, r2⟩ := hc3 k hkn
            clear hc3
            by_cases hhl : (h : Int) < (nt xs k).Hold
            · have FF := Lib.hid (fs_hold HQ.out hkn (by omega) hhl)
              have HL := Lib.hid (show (out.map (Value.int .i64)).length ≤ 1048576 by rw [List.length_map]; omega)
              have HO2 := Lib.hid (fun _ : Unit => HO.out)
              go_wp2_with (at_builtin; refine wpList_app1 _ rfl (.tmp 55) (.tmp 57) 24 rfl w.heap.size 2 (.int .i64 0) 8 Try.underlying24 info_i64 rfl _ _ (HO2.out ()) rfl _ _ rfl (by simp) rfl HL.out (by omega) hz ?_; intro v3 w3 hO3 hk3 hs3)
              have hB3 := hk3 (Nat.le_refl _) hB
              go_roundw
              case rel => exact ⟨q + 1, h + 1, out ++ [a], by go_num, FF.out, by omega, by simp; omega, by rw [map_snoc]; exact hO3, hB3⟩
              case measure => simp [intOf]; omega
            · have FF := Lib.hid (fs_next HQ.out hkn (by omega) hhl)
              go_wp2
              go_roundw
              case rel => exact ⟨q + 1, k + 1, out, a, by omega, by go_num, rfl, FF.out, by omega, by omega, by simp only [Int.natCast_add, Int.cast_ofNat_Int]; omega, HO.out, hB⟩
              case measure => simp [intOf]; omega
    · obtain rfl : n = k := by omega
      have hlt := hB.size
      have hO' := HO.out
      obtain ⟨g3, cp3, rfl, hg3, hcap, hI3⟩ := HO.out.ints (by omega)
      have hF3 : Fz wo (some ⟨g3, 0, none⟩) := by
        obtain ⟨g', cap', hv, _, ho⟩ := hO'
        simp only [List.length_map, Value.slice.injEq, Option.some.injEq, Addr.mk.injEq, and_true] at hv
        obtain ⟨rfl, _, rfl⟩ := hv
        exact Fz.mk_ fun o => ho.frozenAt o
      have hl3 := hO'.lt
      have hE3 := Lib.hid (fsEnd_eq HQ.out (Nat.le_refl n))
      have hN3 : Fresh w wo (some ⟨g3, 0, none⟩) := fun a' e => by
        simp only [Option.some.injEq] at e
        subst e
        exact ⟨hg3, hl3.2⟩
      have HF3 := Lib.hid hF3; have HN3 := Lib.hid hN3; have HI3 := Lib.hid hI3; clear hF3 hN3 hI3 hO'
      by_cases h200 : out.length ≤ 200
      · have hd : decide ((out.length : Int) ≤ 200) = true := by simp; omega
        go_wp2
        go_ret2
        exact ⟨some ⟨g3, 0, none⟩, out.length, cp3, true, rfl, .inr ⟨rfl, by rw [L.out]; exact fs_notFull HQ.out (Nat.le_refl n) h200, by rw [L.out, hE3.out]; exact HI3.out, HF3.out, HN3.out, by rw [L.out, hE3.out]; exact HO.out⟩, hB⟩
      · have hd : decide ((out.length : Int) ≤ 200) = false := by simp; omega
        go_wp2
        go_ret2
        exact ⟨some ⟨g3, 0, none⟩, out.length, cp3, false, rfl, .inl ⟨rfl, by rw [L.out]; exact fs_full HQ.out (by omega)⟩, hB⟩

end Go.Proofs.Ytoghgbbepjpelaa
