/- The contracts of FireFault, the reference's and the program's. -/
import Derived.Test.YtoghgbbepjpelaaGreatDoorHR1
import Derived.Test.YtoghgbbepjpelaaGreatDoorH1
namespace Go.Proofs.YtoghgbbepjpelaaGreatDoor
open Go.RowKit
set_option linter.unusedVariables false

inductive FfR where
  | go (k : Nat) (held : Int)
  | stop (hour : Int) (name : ByteArray)
def ffCheck (xs : List HeatRule) (k : Nat) (held h b now : Int) : FfR :=
  if (nt xs k).Upto < now then .stop h ⟨#[104, 111, 116]⟩ else if b + (nt xs k).Rise < now then .stop h ⟨#[114, 105, 115, 101]⟩ else if now < b then .stop h ⟨#[102, 97, 108, 108]⟩ else .go k held
def ffStep (xs : List HeatRule) (n k : Nat) (held h b now : Int) : FfR :=
  if b = (nt xs k).Upto then
    (if now = b then .go k (held + 1) else if b < now then (if held < (nt xs k).Hold then .stop h ⟨#[104, 111, 108, 100]⟩ else if k + 1 = n then .stop h ⟨#[104, 111, 116]⟩ else ffCheck xs (k + 1) 0 h b now) else ffCheck xs k held h b now)
  else ffCheck xs k held h b now
def ff (xs : List HeatRule) (ds : List Int) (n : Nat) : Nat → FfR
  | 0 => .go 0 0
  | j + 1 => match ff xs ds n j with
    | .go k held => ffStep xs n k held ((j : Int) + 1) (nth ds j) (nth ds (j + 1))
    | .stop h s => .stop h s
theorem ff_next {xs : List HeatRule} {ds : List Int} {n j k : Nat} {held : Int} (h : ff xs ds n j = .go k held) : ff xs ds n (j + 1) = ffStep xs n k held ((j : Int) + 1) (nth ds j) (nth ds (j + 1)) := by rw [ff, h]
theorem ff_stop {xs : List HeatRule} {ds : List Int} {n j : Nat} {h : Int} {s : ByteArray} (hs : ff xs ds n j = .stop h s) {m : Nat} (hm : j ≤ m) : ff xs ds n m = .stop h s := by
  obtain ⟨d, rfl⟩ := Nat.exists_eq_add_of_le hm
  clear hm
  induction d with
  | zero => exact hs
  | succ d ih => rw [← Nat.add_assoc, ff, ih]
def ffEnd (xs : List HeatRule) (ds : List Int) (n m : Nat) : Int × ByteArray :=
  match ff xs ds n (m - 1) with
  | .stop h s => (h, s)
  | .go k held => if k + 1 < n ∨ ¬ nth ds (m - 1) = (nt xs (n - 1)).Upto ∨ held < (nt xs (n - 1)).Hold then ((m : Int), ⟨#[101, 110, 100]⟩) else (-1, ⟨#[]⟩)
theorem ffEnd_stop {xs : List HeatRule} {ds : List Int} {n m j : Nat} {h : Int} {s : ByteArray} (hs : ff xs ds n j = .stop h s) (hm : j ≤ m - 1) : ffEnd xs ds n m = (h, s) := by rw [ffEnd, ff_stop hs hm]
theorem ffEnd_bad {xs : List HeatRule} {ds : List Int} {n m k : Nat} {held : Int} (hs : ff xs ds n (m - 1) = .go k held) (h : k + 1 < n ∨ ¬ nth ds (m - 1) = (nt xs (n - 1)).Upto ∨ held < (nt xs (n - 1)).Hold) : ffEnd xs ds n m = ((m : Int), ⟨#[101, 110, 100]⟩) := by rw [ffEnd, hs]; exact if_pos h
theorem ffEnd_good {xs : List HeatRule} {ds : List Int} {n m k : Nat} {held : Int} (hs : ff xs ds n (m - 1) = .go k held) (h : ¬ (k + 1 < n ∨ ¬ nth ds (m - 1) = (nt xs (n - 1)).Upto ∨ held < (nt xs (n - 1)).Hold)) : ffEnd xs ds n m = (-1, ⟨#[]⟩) := by rw [ffEnd, hs]; exact if_neg h
def ffF (xs : List HeatRule) (ds : List Int) : Int × ByteArray := if (nt xs 0).Upto < nth ds 0 then (0, ⟨#[104, 111, 116]⟩) else ffEnd xs ds xs.length ds.length
def fireF (xs : List HeatRule) (ds : List Int) : Int × ByteArray × Int := if rulesOk xs = true then (if firB ds = true then ((ffF xs ds).1, (ffF xs ds).2, 0) else (0, ⟨#[]⟩, 2)) else (0, ⟨#[]⟩, 1)
/-- A number, a text and a code. -/
def NumText (p : Int × ByteArray × Int) (w : World) (e : Ending) (w' : World) : Prop := e = .returned (.tuple #[.int .i64 p.1, .string p.2.1, .int .i64 p.2.2]) ∧ Below w.heap.size w w'
theorem NumText.mk {p : Int × ByteArray × Int} {w w' : World} {a b : Int} {s : ByteArray} (h : p = (a, s, b)) (hb : Below w.heap.size w w') : NumText p w (.returned (.tuple #[.int .i64 a, .string s, .int .i64 b])) w' := by
  subst h; exact ⟨rfl, hb⟩
def NumText2 (p : Int × ByteArray) (w : World) (e : Ending) (w' : World) : Prop := e = .returned (.tuple #[.int .i64 p.1, .string p.2]) ∧ Below w.heap.size w w'
theorem NumText2.mk {p : Int × ByteArray} {w w' : World} {a : Int} {s : ByteArray} (h : p = (a, s)) (hb : Below w.heap.size w w') : NumText2 p w (.returned (.tuple #[.int .i64 a, .string s])) w' := by
  subst h; exact ⟨rfl, hb⟩
theorem rulesOk_facts {xs : List HeatRule} (h : rulesOk xs = true) : 1 ≤ xs.length ∧ xs.length ≤ 8 := by
  simp only [rulesOk, Bool.and_eq_true, inB_true] at h; omega
theorem rulesOk_rule {xs : List HeatRule} (h : rulesOk xs = true) {k : Nat} (hk : k < xs.length) : (1 ≤ (nt xs k).Upto ∧ (nt xs k).Upto ≤ 1300) ∧ (1 ≤ (nt xs k).Rise ∧ (nt xs k).Rise ≤ 300) ∧ (0 ≤ (nt xs k).Hold ∧ (nt xs k).Hold ≤ 48) := by
  simp only [rulesOk, Bool.and_eq_true] at h
  have h1 := rulesUp_at h.1 hk
  simp only [ruleB, Bool.and_eq_true, inB_true] at h1
  omega
theorem rulesOk_step {xs : List HeatRule} (h : rulesOk xs = true) {k : Nat} (hk : k + 1 < xs.length) : (nt xs k).Upto < (nt xs (k + 1)).Upto := by
  simp only [rulesOk, Bool.and_eq_true] at h
  have h1 := rulesUp_at h.1 hk
  simp only [ruleB, Bool.and_eq_true, Bool.or_eq_true, decide_eq_true_eq] at h1
  rcases h1.2.2.2 with h2 | h2
  · omega
  · simpa using h2

set_option maxRecDepth 100000 in
set_option maxHeartbeats 8000000 in
theorem fireFault_any (A D : Option Addr) (n c m d : Nat) (xs : List HeatRule) (ds : List Int) (w : World) (hA : HeatRuleS w A n xs) (hD : Ints w D m ds) (ok : rulesOk xs = true) (fir : firB ds = true) :
    Calls Tryz.prog 33 #[.slice A n c, .slice D m d] w (NumText2 (ffF xs ds) w) := by
  have hn := hA.bound
  have hl := rulesOk_facts ok
  rw [hA.len] at hl
  have hu := (rulesOk_rule ok (k := 0) (by rw [hA.len]; omega)).1
  obtain ⟨hm0, hm1, _⟩ := firB_parts fir
  rw [hD.len] at hm0 hm1
  have hA0 := hA
  have hD0 := hD
  have LX := Lib.hid hA.len
  have LD := Lib.hid hD.len
  have FIR := Lib.hid (fun (i : Nat) (hi : i < m) => firB_nth fir (k := i) (by rw [hD.len]; exact hi))
  have FE0 := Lib.hid (show ffF xs ds = if (nt xs 0).Upto < nth ds 0 then (0, ⟨#[104, 111, 116]⟩) else ffEnd xs ds n m by rw [ffF, hA.len, hD.len])
  have OK := Lib.hid ok; have FI := Lib.hid fir; clear ok fir
  obtain ⟨bd0, od0, rfl, hbd0, hcd0⟩ := hD.cell (by omega)
  have x0 : w.cell? ⟨bd0, od0 + 0, none⟩ = some (.int .i64 (nth ds 0)) := hcd0 0 (by omega)
  obtain ⟨bx0, ox0, rfl, hbx0, hcx0⟩ := hA.cell (by omega)
  have x1 : (nt xs 0).lies w bx0 (ox0 + 0 * 3) := hcx0 0 (by omega)
  rw [Nat.add_zero] at x0
  rw [Nat.zero_mul, Nat.add_zero] at x1
  obtain ⟨x1, x2, x3⟩ := x1
  clear hcd0 hcx0
  have hB00 : Below w.heap.size w w := Below.refl _ _
  by_cases h0 : (nt xs 0).Upto < nth ds 0
  · have FE := Lib.hid (show ffF xs ds = (0, ⟨#[104, 111, 116]⟩) by rw [FE0.out, if_pos h0])
    have t0 : decide ((nt xs 0).Upto < nth ds 0) = true := by simpa using h0
    go_enter Tryz.func33, Tryz.ntmps33
    go_wp2_with fail
    go_quiet (fail)
    go_wp2
    go_ret2
    exact NumText2.mk FE.out (below_drewN hB00 _)
  · have FE := Lib.hid (show ffF xs ds = ffEnd xs ds n m by rw [FE0.out, if_neg h0])
    have t0 : decide ((nt xs 0).Upto < nth ds 0) = false := by simpa using h0
    have h0' : nth ds 0 ≤ (nt xs 0).Upto := by omega
    go_enter Tryz.func33, Tryz.ntmps33
    go_wp2_with fail
    go_quiet (fail)
    go_wp2
    clear x0 x1 x2 x3
    have HB0 : ∀ q, Below w.heap.size w (w.drewN q) := fun q => below_drewN hB00 q
    go_loopw [6, 7, 8] (fun u v i wr => ∃ (j k : Nat) (held : Int), j + 1 ≤ m ∧ i = .int .i64 ((j : Int) + 1) ∧ u = .int .i64 k ∧ v = .int .i64 held ∧ ff xs ds n j = .go k held ∧ k < n ∧ 0 ≤ held ∧ held ≤ j ∧ nth ds j ≤ (nt xs k).Upto ∧ Below w.heap.size w wr) (fun _ _ i _ => m + 1 - (intOf i).toNat)
    case atStart => exact ⟨0, 0, 0, by omega, rfl, rfl, rfl, rfl, by omega, by omega, by omega, by omega, HB0 _⟩
    case round =>
      obtain ⟨j, k, held, hj, rfl, rfl, rfl, hff, hkn, hh0, hh1, hle, hB⟩ := hrel
      have FF := Lib.hid hff; clear hff
      obtain ⟨bd, od, hed, hbd, hcd⟩ := (hD0.below hB).cell (by omega)
      simp only [Option.some.injEq, Addr.mk.injEq, and_true] at hed
      obtain ⟨rfl, rfl⟩ := hed
      have hd0 := hcd j (by omega)
      obtain ⟨bx, ox, hex, hbx, hcx⟩ := (hA0.below hB).cell (by omega)
      simp only [Option.some.injEq, Addr.mk.injEq, and_true] at hex
      obtain ⟨rfl, rfl⟩ := hex
      obtain ⟨r0, r1, r2⟩ := hcx k hkn
      have HCX := Lib.hid hcx
      obtain ⟨⟨u0, u1⟩, ⟨u2, u3⟩, ⟨u4, u5⟩⟩ := rulesOk_rule OK.out (k := k) (by rw [LX.out]; exact hkn)
      have g0 := FIR.out j (by omega)
      by_cases hlt : j + 1 < m
      · have hd1 := hcd (j + 1) hlt
        have hji0 : (0 : Int) ≤ (j : Int) + 1 := by omega
        have hji1 : (j : Int) + 1 < (m : Int) := by omega
        have g1 := FIR.out (j + 1) hlt
        clear hcd hcx
        by_cases q1 : nth ds j = (nt xs k).Upto
        · by_cases q2 : nth ds (j + 1) = nth ds j
          · have t0 : (nth ds j == (nt xs k).Upto) = true := by simp; omega
            have t1 : (nth ds (j + 1) == nth ds j) = true := by simp; omega
            have F := Lib.hid (show ff xs ds n (j + 1) = .go (k) (held + 1) by rw [ff_next FF.out, ffStep]; repeat (first | rw [if_pos (by omega)] | rw [if_neg (by omega)] | (rw [ffCheck]; done) | rfl | (unfold ffCheck)))
            skip
            go_wp2_with fail
            repeat (first | (go_quiet (fail); go_wp2) | fail)
            go_roundw
            case rel => exact ⟨j + 1, k, held + 1, by omega, by go_num, by first | rfl | go_num, by first | rfl | go_num, F.out, by omega, by omega, by omega, by omega, (by first | exact below_drewN hB _ | exact hB | exact below_drewN (below_drewN hB _) _)⟩
            case measure => simp [intOf]; omega
          · by_cases q3 : nth ds j < nth ds (j + 1)
            · by_cases q4 : held < (nt xs k).Hold
              · have t0 : (nth ds j == (nt xs k).Upto) = true := by simp; omega
                have t1 : (nth ds (j + 1) == nth ds j) = false := by simp; omega
                have t2 : decide (nth ds j < nth ds (j + 1)) = true := by simp; omega
                have t3 : decide (held < (nt xs k).Hold) = true := by simp; omega
                have F := Lib.hid (show ff xs ds n (j + 1) = .stop ((j : Int) + 1) ⟨#[104, 111, 108, 100]⟩ by rw [ff_next FF.out, ffStep]; repeat (first | rw [if_pos (by omega)] | rw [if_neg (by omega)] | rfl | (unfold ffCheck)))
                skip
                go_wp2_with fail
                repeat (first | (go_quiet (fail); go_wp2) | fail)
                go_ret2
                exact NumText2.mk (by rw [FE.out, ffEnd_stop F.out (by omega)]) (by first | exact below_drewN hB _ | exact hB | exact below_drewN (below_drewN hB _) _)
              · by_cases q5 : k + 1 = n
                · have t0 : (nth ds j == (nt xs k).Upto) = true := by simp; omega
                  have t1 : (nth ds (j + 1) == nth ds j) = false := by simp; omega
                  have t2 : decide (nth ds j < nth ds (j + 1)) = true := by simp; omega
                  have t3 : decide (held < (nt xs k).Hold) = false := by simp; omega
                  have t4 : ((k : Int) + 1 == (n : Int)) = true := by simp; omega
                  have F := Lib.hid (show ff xs ds n (j + 1) = .stop ((j : Int) + 1) ⟨#[104, 111, 116]⟩ by rw [ff_next FF.out, ffStep]; repeat (first | rw [if_pos (by omega)] | rw [if_neg (by omega)] | rfl | (unfold ffCheck)))
                  skip
                  go_wp2_with fail
                  repeat (first | (go_quiet (fail); go_wp2) | fail)
                  go_ret2
                  exact NumText2.mk (by rw [FE.out, ffEnd_stop F.out (by omega)]) (by first | exact below_drewN hB _ | exact hB | exact below_drewN (below_drewN hB _) _)
                · have hkn1 : k + 1 < n := by omega
                  obtain ⟨⟨v0, v1⟩, ⟨v2, v3⟩, ⟨v4, v5⟩⟩ := rulesOk_rule OK.out (k := k + 1) (by rw [LX.out]; omega)
                  have vs := rulesOk_step OK.out (k := k) (by rw [LX.out]; omega)
                  obtain ⟨p0, p1, p2⟩ := HCX.out (k + 1) hkn1
                  have hki0 : (0 : Int) ≤ (k : Int) + 1 := by omega
                  have hki1 : (k : Int) + 1 < (n : Int) := by omega
                  by_cases q6 : (nt xs (k + 1)).Upto < nth ds (j + 1)
                  · have t0 : (nth ds j == (nt xs k).Upto) = true := by simp; omega
                    have t1 : (nth ds (j + 1) == nth ds j) = false := by simp; omega
                    have t2 : decide (nth ds j < nth ds (j + 1)) = true := by simp; omega
                    have t3 : decide (held < (nt xs k).Hold) = false := by simp; omega
                    have t4 : ((k : Int) + 1 == (n : Int)) = false := by simp; omega
                    have t5 : decide ((nt xs (k + 1)).Upto < nth ds (j + 1)) = true := by simp; omega
                    have F := Lib.hid (show ff xs ds n (j + 1) = .stop ((j : Int) + 1) ⟨#[104, 111, 116]⟩ by rw [ff_next FF.out, ffStep]; repeat (first | rw [if_pos (by omega)] | rw [if_neg (by omega)] | rfl | (unfold ffCheck)))
                    skip
                    go_wp2_with fail
                    repeat (first | (go_quiet (fail); go_wp2) | fail)
                    go_ret2
                    exact NumText2.mk (by rw [FE.out, ffEnd_stop F.out (by omega)]) (by first | exact below_drewN hB _ | exact hB | exact below_drewN (below_drewN hB _) _)
                  · by_cases q7 : nth ds j + (nt xs (k + 1)).Rise < nth ds (j + 1)
                    · have t0 : (nth ds j == (nt xs k).Upto) = true := by simp; omega
                      have t1 : (nth ds (j + 1) == nth ds j) = false := by simp; omega
                      have t2 : decide (nth ds j < nth ds (j + 1)) = true := by simp; omega
                      have t3 : decide (held < (nt xs k).Hold) = false := by simp; omega
                      have t4 : ((k : Int) + 1 == (n : Int)) = false := by simp; omega
                      have t5 : decide ((nt xs (k + 1)).Upto < nth ds (j + 1)) = false := by simp; omega
                      have t6 : decide (nth ds j + (nt xs (k + 1)).Rise < nth ds (j + 1)) = true := by simp; omega
                      have F := Lib.hid (show ff xs ds n (j + 1) = .stop ((j : Int) + 1) ⟨#[114, 105, 115, 101]⟩ by rw [ff_next FF.out, ffStep]; repeat (first | rw [if_pos (by omega)] | rw [if_neg (by omega)] | rfl | (unfold ffCheck)))
                      skip
                      go_wp2_with fail
                      repeat (first | (go_quiet (fail); go_wp2) | fail)
                      go_ret2
                      exact NumText2.mk (by rw [FE.out, ffEnd_stop F.out (by omega)]) (by first | exact below_drewN hB _ | exact hB | exact below_drewN (below_drewN hB _) _)
                    · have t0 : (nth ds j == (nt xs k).Upto) = true := by simp; omega
                      have t1 : (nth ds (j + 1) == nth ds j) = false := by simp; omega
                      have t2 : decide (nth ds j < nth ds (j + 1)) = true := by simp; omega
                      have t3 : decide (held < (nt xs k).Hold) = false := by simp; omega
                      have t4 : ((k : Int) + 1 == (n : Int)) = false := by simp; omega
                      have t5 : decide ((nt xs (k + 1)).Upto < nth ds (j + 1)) = false := by simp; omega
                      have t6 : decide (nth ds j + (nt xs (k + 1)).Rise < nth ds (j + 1)) = false := by simp; omega
                      have t7 : decide (nth ds (j + 1) < nth ds j) = false := by simp; omega
                      have F := Lib.hid (show ff xs ds n (j + 1) = .go (k + 1) (0) by rw [ff_next FF.out, ffStep]; repeat (first | rw [if_pos (by omega)] | rw [if_neg (by omega)] | (rw [ffCheck]; done) | rfl | (unfold ffCheck)))
                      skip
                      go_wp2_with fail
                      repeat (first | (go_quiet (fail); go_wp2) | fail)
                      go_roundw
                      case rel => exact ⟨j + 1, k + 1, 0, by omega, by go_num, by first | rfl | go_num, by first | rfl | go_num, F.out, by omega, by omega, by omega, by omega, (by first | exact below_drewN hB _ | exact hB | exact below_drewN (below_drewN hB _) _)⟩
                      case measure => simp [intOf]; omega
            · have t0 : (nth ds j == (nt xs k).Upto) = true := by simp; omega
              have t1 : (nth ds (j + 1) == nth ds j) = false := by simp; omega
              have t2 : decide (nth ds j < nth ds (j + 1)) = false := by simp; omega
              have t3 : decide ((nt xs k).Upto < nth ds (j + 1)) = false := by simp; omega
              have t4 : decide (nth ds j + (nt xs k).Rise < nth ds (j + 1)) = false := by simp; omega
              have t5 : decide (nth ds (j + 1) < nth ds j) = true := by simp; omega
              have F := Lib.hid (show ff xs ds n (j + 1) = .stop ((j : Int) + 1) ⟨#[102, 97, 108, 108]⟩ by rw [ff_next FF.out, ffStep]; repeat (first | rw [if_pos (by omega)] | rw [if_neg (by omega)] | rfl | (unfold ffCheck)))
              skip
              go_wp2_with fail
              repeat (first | (go_quiet (fail); go_wp2) | fail)
              go_ret2
              exact NumText2.mk (by rw [FE.out, ffEnd_stop F.out (by omega)]) (by first | exact below_drewN hB _ | exact hB | exact below_drewN (below_drewN hB _) _)
        · by_cases q2 : (nt xs k).Upto < nth ds (j + 1)
          · have t0 : (nth ds j == (nt xs k).Upto) = false := by simp; omega
            have t1 : decide ((nt xs k).Upto < nth ds (j + 1)) = true := by simp; omega
            have F := Lib.hid (show ff xs ds n (j + 1) = .stop ((j : Int) + 1) ⟨#[104, 111, 116]⟩ by rw [ff_next FF.out, ffStep]; repeat (first | rw [if_pos (by omega)] | rw [if_neg (by omega)] | rfl | (unfold ffCheck)))
            skip
            go_wp2_with fail
            repeat (first | (go_quiet (fail); go_wp2) | fail)
            go_ret2
            exact NumText2.mk (by rw [FE.out, ffEnd_stop F.out (by omega)]) (by first | exact below_drewN hB _ | exact hB | exact below_drewN (below_drewN hB _) _)
          · by_cases q3 : nth ds j + (nt xs k).Rise < nth ds (j + 1)
            · have t0 : (nth ds j == (nt xs k).Upto) = false := by simp; omega
              have t1 : decide ((nt xs k).Upto < nth ds (j + 1)) = false := by simp; omega
              have t2 : decide (nth ds j + (nt xs k).Rise < nth ds (j + 1)) = true := by simp; omega
              have F := Lib.hid (show ff xs ds n (j + 1) = .stop ((j : Int) + 1) ⟨#[114, 105, 115, 101]⟩ by rw [ff_next FF.out, ffStep]; repeat (first | rw [if_pos (by omega)] | rw [if_neg (by omega)] | rfl | (unfold ffCheck)))
              skip
              go_wp2_with fail
              repeat (first | (go_quiet (fail); go_wp2) | fail)
              go_ret2
              exact NumText2.mk (by rw [FE.out, ffEnd_stop F.out (by omega)]) (by first | exact below_drewN hB _ | exact hB | exact below_drewN (below_drewN hB _) _)
            · by_cases q4 : nth ds (j + 1) < nth ds j
              · have t0 : (nth ds j == (nt xs k).Upto) = false := by simp; omega
                have t1 : decide ((nt xs k).Upto < nth ds (j + 1)) = false := by simp; omega
                have t2 : decide (nth ds j + (nt xs k).Rise < nth ds (j + 1)) = false := by simp; omega
                have t3 : decide (nth ds (j + 1) < nth ds j) = true := by simp; omega
                have F := Lib.hid (show ff xs ds n (j + 1) = .stop ((j : Int) + 1) ⟨#[102, 97, 108, 108]⟩ by rw [ff_next FF.out, ffStep]; repeat (first | rw [if_pos (by omega)] | rw [if_neg (by omega)] | rfl | (unfold ffCheck)))
                skip
                go_wp2_with fail
                repeat (first | (go_quiet (fail); go_wp2) | fail)
                go_ret2
                exact NumText2.mk (by rw [FE.out, ffEnd_stop F.out (by omega)]) (by first | exact below_drewN hB _ | exact hB | exact below_drewN (below_drewN hB _) _)
              · have t0 : (nth ds j == (nt xs k).Upto) = false := by simp; omega
                have t1 : decide ((nt xs k).Upto < nth ds (j + 1)) = false := by simp; omega
                have t2 : decide (nth ds j + (nt xs k).Rise < nth ds (j + 1)) = false := by simp; omega
                have t3 : decide (nth ds (j + 1) < nth ds j) = false := by simp; omega
                have F := Lib.hid (show ff xs ds n (j + 1) = .go (k) (held) by rw [ff_next FF.out, ffStep]; repeat (first | rw [if_pos (by omega)] | rw [if_neg (by omega)] | (rw [ffCheck]; done) | rfl | (unfold ffCheck)))
                skip
                go_wp2_with fail
                repeat (first | (go_quiet (fail); go_wp2) | fail)
                go_roundw
                case rel => exact ⟨j + 1, k, held, by omega, by go_num, by first | rfl | go_num, by first | rfl | go_num, F.out, by omega, by omega, by omega, by omega, (by first | exact below_drewN hB _ | exact hB | exact below_drewN (below_drewN hB _) _)⟩
                case measure => simp [intOf]; omega
      · have JM := Lib.hid (show j = m - 1 by omega)
        obtain ⟨z0, z1, z2⟩ := hcx (n - 1) (by omega)
        have hd1 := hcd (m - 1) (by omega)
        have hn0 : (0 : Int) ≤ (n : Int) - 1 := by omega
        have hm0 : (0 : Int) ≤ (m : Int) - 1 := by omega
        have hnt : ((n : Int) - 1).toNat = n - 1 := by omega
        have hmt : ((m : Int) - 1).toNat = m - 1 := by omega
        clear hcd hcx
        by_cases c1 : k + 1 < n
        · have t_k : decide ((k : Int) + 1 < (n : Int)) = true := by simp; omega
          have hBE : Below w.heap.size w (wr.alloc (.cells #[.int .i64 (nt xs (n - 1)).Upto, .int .i64 (nt xs (n - 1)).Rise, .int .i64 (nt xs (n - 1)).Hold] 48)) := hB.alloc hB.size _
          go_wp2_with fail
          repeat (first | (go_quiet (fail); go_wp2) | fail)
          go_ret2
          exact NumText2.mk (by rw [FE.out, ffEnd_bad (by rw [← JM.out]; exact FF.out) (.inl c1)]) (by first | exact below_drewN hBE _ | exact hBE)
        · have hkl : k = n - 1 := by omega
          have hdl : nth ds (m - 1) ≤ (nt xs (n - 1)).Upto := by rw [← hkl, ← JM.out]; exact hle
          clear hkl
          by_cases c2 : nth ds (m - 1) = (nt xs (n - 1)).Upto
          · by_cases c3 : held < (nt xs (n - 1)).Hold
            · have t_k : decide ((k : Int) + 1 < (n : Int)) = false := by simp; omega
              have t_d : (nth ds (m - 1) != (nt xs (n - 1)).Upto) = false := by simp; omega
              have t_h : decide (held < (nt xs (n - 1)).Hold) = true := by simp; omega
              have hBE : Below w.heap.size w (wr.alloc (.cells #[.int .i64 (nt xs (n - 1)).Upto, .int .i64 (nt xs (n - 1)).Rise, .int .i64 (nt xs (n - 1)).Hold] 48)) := hB.alloc hB.size _
              go_wp2_with fail
              repeat (first | (go_quiet (fail); go_wp2) | fail)
              go_ret2
              exact NumText2.mk (by rw [FE.out, ffEnd_bad (by rw [← JM.out]; exact FF.out) (.inr (.inr c3))]) (by first | exact below_drewN hBE _ | exact hBE)
            · have t_k : decide ((k : Int) + 1 < (n : Int)) = false := by simp; omega
              have t_d : (nth ds (m - 1) != (nt xs (n - 1)).Upto) = false := by simp; omega
              have t_h : decide (held < (nt xs (n - 1)).Hold) = false := by simp; omega
              have hBE : Below w.heap.size w (wr.alloc (.cells #[.int .i64 (nt xs (n - 1)).Upto, .int .i64 (nt xs (n - 1)).Rise, .int .i64 (nt xs (n - 1)).Hold] 48)) := hB.alloc hB.size _
              go_wp2_with fail
              repeat (first | (go_quiet (fail); go_wp2) | fail)
              go_ret2
              exact NumText2.mk (by rw [FE.out, ffEnd_good (by rw [← JM.out]; exact FF.out) (by rintro (h | h | h) <;> first | exact c1 h | exact h (by first | exact C2.out | exact c2) | omega)]) (by first | exact below_drewN hBE _ | exact hBE)
          · have t_k : decide ((k : Int) + 1 < (n : Int)) = false := by simp; omega
            have t_d : (nth ds (m - 1) != (nt xs (n - 1)).Upto) = true := by simp; omega
            have hBE : Below w.heap.size w (wr.alloc (.cells #[.int .i64 (nt xs (n - 1)).Upto, .int .i64 (nt xs (n - 1)).Rise, .int .i64 (nt xs (n - 1)).Hold] 48)) := hB.alloc hB.size _
            go_wp2_with fail
            repeat (first | (go_quiet (fail); go_wp2) | fail)
            go_ret2
            exact NumText2.mk (by rw [FE.out, ffEnd_bad (by rw [← JM.out]; exact FF.out) (.inr (.inl c2))]) (by first | exact below_drewN hBE _ | exact hBE)

end Go.Proofs.YtoghgbbepjpelaaGreatDoor
