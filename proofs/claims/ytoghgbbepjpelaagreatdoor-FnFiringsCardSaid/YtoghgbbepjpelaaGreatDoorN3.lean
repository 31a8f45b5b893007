/- Numbers out of texts: the reference's l01Number. -/
import Derived.Test.YtoghgbbepjpelaaGreatDoorN1
import Derived.Test.YtoghgbbepjpelaaGreatDoorPN
import Derived.Test.YtoghgbbepjpelaaGreatDoorSm
import Derived.Lib.IndexBytes
namespace Go.Proofs.YtoghgbbepjpelaaGreatDoor
open Go.RowKit
set_option linter.unusedVariables false

theorem l01Digit_any (c : Int) (w : World) :
    Calls Tryz.prog 64 #[.int .u8 c] w fun e w' => e = .returned (.bool (inB c 48 57)) ∧ w = w' := by
  have h : inB c 48 57 = (decide (48 ≤ c) && decide (c ≤ 57)) := by simp [inB]
  rw [h]; clear h
  go_enter Tryz.func64, Tryz.ntmps64
  go_wp2
  all_goals (go_ret; exact ⟨ret_bool (by simp [*]; try omega), rfl⟩)

theorem str_ne {a b : ByteArray} (h : ¬ a = b) : (a.toList == b.toList) = false := by
  rw [beq_eq_false_iff_ne]
  intro e
  rw [Lib.toList_data, Lib.toList_data] at e
  exact h (Go.WideShapes.bytes_inj e)
def NumC (l : List UInt8) (w : World) (e : Ending) (w' : World) : Prop := e = .returned (.tuple #[.int .i64 ((numO l).getD 0), .bool (numO l).isSome]) ∧ Below w.heap.size w w'
theorem NumC.none_ {l : List UInt8} {w w' : World} (h : numO l = none) (hb : Below w.heap.size w w') : NumC l w (.returned (.tuple #[.int .i64 0, .bool false])) w' := ⟨by rw [h]; rfl, hb⟩
theorem NumC.some_ {l : List UInt8} {n : Int} {w w' : World} (h : numO l = some n) (hb : Below w.heap.size w w') : NumC l w (.returned (.tuple #[.int .i64 n, .bool true])) w' := ⟨by rw [h]; rfl, hb⟩
theorem numO_len {l : List UInt8} (h : ¬ (1 ≤ (bodyL l).length ∧ (bodyL l).length ≤ 18)) : numO l = none := by rw [numO, if_neg h]
theorem numO_bad {l : List UInt8} (h : Lib.decFrom 0 (bodyL l) = none) : numO l = none := by
  rw [numO]; split
  · rw [h]
  · rfl
theorem numO_yes {l : List UInt8} {u : Nat} (h1 : 1 ≤ (bodyL l).length) (h2 : (bodyL l).length ≤ 18) (h : Lib.decFrom 0 (bodyL l) = some u) (hi : Lib.itoa (sgn (negB l) u) = l) : numO l = some (sgn (negB l) u) := by
  rw [numO, if_pos ⟨h1, h2⟩, h]; simp only [if_pos hi]
theorem numO_no {l : List UInt8} {u : Nat} (h : Lib.decFrom 0 (bodyL l) = some u) (hi : Lib.itoa (sgn (negB l) u) ≠ l) : numO l = none := by
  rw [numO]; split
  · rw [h]; simp only [if_neg hi]
  · rfl
theorem digitVal_some {b : UInt8} (h : inB (b.toNat : Int) 48 57 = true) : Lib.digitVal b = some (b.toNat - 48) := by
  have := inB_true.1 h
  rw [Lib.digitVal, if_pos (by omega)]
theorem digitVal_none {b : UInt8} (h : inB (b.toNat : Int) 48 57 = false) : Lib.digitVal b = none := by
  have := inB_false.1 h
  rw [Lib.digitVal, if_neg (by omega)]
theorem pow_18 {k : Nat} (h : k ≤ 17) : 10 ^ k ≤ 100000000000000000 := Nat.le_trans (Nat.pow_le_pow_right (by omega) h) (by decide)
theorem pow_18' {k : Nat} (h : k ≤ 18) : 10 ^ k ≤ 1000000000000000000 := Nat.le_trans (Nat.pow_le_pow_right (by omega) h) (by decide)
theorem get_list {s : ByteArray} {k : Nat} (h : k < s.size) : s.data.toList[k]? = some s[k] := by
  rw [List.getElem?_eq_getElem (by rw [← Lib.size_eq]; exact h)]; rfl
set_option maxHeartbeats 8000000 in
theorem l01Number_any (s : ByteArray) (w : World) (hs : s.size ≤ 1048576) :
    Calls Tryz.prog 46 #[.string s] w (NumC s.data.toList w) := by
  by_cases h0 : s.size = 0
  · have hl : s.toList = [] := by rw [Lib.toList_data, ← List.length_eq_zero_iff, ← Lib.size_eq]; exact h0
    have hl2 : (!s.toList.isEmpty) = false := by rw [hl]; rfl
    have hz := Lib.hid h0
    clear h0
    have hs1 : ¬ (1 : Int) ≤ (s.size : Int) := by have := hz.out; omega
    go_enter Tryz.func46, Tryz.ntmps46
    go_wp2_with fail
    go_ret2
    exact NumC.none_ (numO_len (by rw [body_len, ← Lib.size_eq, hz.out]; split <;> omega)) (Below.refl _ _)
  · have hne : ¬ s.toList = [] := fun h => h0 (by rw [Lib.size_eq, ← Lib.toList_data, h]; rfl)
    have hne2 : (!s.toList.isEmpty) = true := by
      cases e : s.toList with
      | nil => exact absurd e hne
      | cons c r => rfl
    have hpos : 0 < s.size := by omega
    have hlen := Lib.hid (Lib.size_eq s)
    have hhead := Lib.hid (get_list hpos)
    clear h0
    by_cases h45 : s[0] = 45
    · have h45' : ((s[0].toNat : Int) == 45) = true := by rw [h45]; rfl
      obtain ⟨T, hT⟩ : ∃ T, s.extract 1 s.size = T := ⟨_, rfl⟩
      have hTd : T.data.toList = bodyL s.data.toList := by
        rw [← hT, Lib.extract_to_end]
        have := hhead.out
        cases e : s.data.toList with
        | nil => rw [e] at this; simp at this
        | cons c r =>
          rw [e] at this
          simp only [List.getElem?_cons_zero, Option.some.injEq] at this
          rw [bodyL, if_pos (by rw [this, h45])]; rfl
      have hTn : negB s.data.toList = true := by
        have := hhead.out
        rw [negB, List.head?_eq_getElem?, this, h45]; rfl
      have hTs : T.size + 1 = s.size := by
        rw [Lib.size_eq T, hTd, body_len, if_pos hTn, ← Lib.size_eq]; omega
      clear h45
      have HT := Lib.hid (show T.data.toList = bodyL s.data.toList from hTd)
      have HN := Lib.hid (show negB s.data.toList = true from hTn)
      have hsz := Lib.hid (Lib.size_eq T)
      clear hTd hTn
      by_cases hlen2 : 1 ≤ T.size ∧ T.size ≤ 18
      · obtain ⟨hl1, hl2⟩ := hlen2
        have hg1 : ¬ (T.size : Int) < 1 := by omega
        have hg2 : ¬ (18 : Int) < (T.size : Int) := by omega
        go_enter Tryz.func46, Tryz.ntmps46
        go_wp2_with fail
        go_loopw [5, 6] (fun v t wr => ∃ (k u : Nat), k ≤ T.size ∧ t = .int .i64 k ∧ v = .int .i64 u ∧ Lib.decFrom 0 (T.data.toList.take k) = some u ∧ u < 10 ^ k ∧ w = wr) (fun _ t _ => T.size - (intOf t).toNat)
        case atStart => exact ⟨0, 0, Nat.zero_le _, rfl, rfl, rfl, by simp, rfl⟩
        case round =>
          obtain ⟨k, u, hk, rfl, rfl, hd, hu, rfl⟩ := hrel
          have D := Lib.hid hd
          clear hd
          by_cases hkt : k < T.size
          · have hb := get_list hkt
            have HBy := Lib.hid hb
            clear hb
            have hp := pow_18 (k := k) (by omega)
            have hu0 : u < 100000000000000000 := by omega
            have HU := Lib.hid hu
            clear hu hp
            rcases Bool.eq_false_or_eq_true (inB (T[k].toNat : Int) 48 57) with g | g
            · obtain ⟨g0, g1⟩ := inB_true.1 g
              have DV := Lib.hid (Lib.decFrom_take _ k 0 u _ _ D.out HBy.out (digitVal_some g))
              have G := Lib.hid g
              clear g
              have hc0 : 0 ≤ (T[k].toNat : Int) - 48 := by omega
              have hc1 : (T[k].toNat : Int) - 48 ≤ 9 := by omega
              have hn0 : u * 10 + (T[k].toNat - 48) < 10 ^ (k + 1) := by have := HU.out; rw [Nat.pow_succ]; omega
              have HN0 := Lib.hid hn0
              clear hn0
              go_wp2_with (go_at_call 64; refine (asB (l01Digit_any _ _) G.out).mono ?_; rintro e w' ⟨rfl, rfl⟩)
              go_roundw
              case rel => exact ⟨k + 1, u * 10 + (T[k].toNat - 48), by omega, by go_num, by rw [show ((u * 10 + (T[k].toNat - 48) : Nat) : Int) = 10 * (u : Int) + ((T[k].toNat : Int) - 48) by omega], DV.out, HN0.out, trivial⟩
              case measure => simp [intOf]; omega
            · have B := Lib.hid (numO_bad (l := s.data.toList) (by rw [← HT.out]; exact decFrom_bad _ 0 k _ HBy.out (digitVal_none g)))
              have G := Lib.hid g
              clear g
              go_wp2_with (go_at_call 64; refine (asB (l01Digit_any _ _) G.out).mono ?_; rintro e w' ⟨rfl, rfl⟩)
              go_ret2
              exact NumC.none_ B.out (Below.refl _ _)
          · obtain rfl : k = T.size := by omega
            have hp := pow_18' (k := T.size) (by omega)
            have hu0 : u < 1000000000000000000 := by omega
            have DF := Lib.hid (show Lib.decFrom 0 (bodyL s.data.toList) = some u by rw [← HT.out, ← D.out, List.take_of_length_le (by rw [← hsz.out]; exact Nat.le_refl _)])
            clear hu hp
            have hcmp : (T.size : Int) < (s.size : Int) := by omega
            by_cases hi : Lib.itoa (sgn (negB s.data.toList) u) = s.data.toList
            · have Y := Lib.hid (numO_yes (by rw [← HT.out, ← hsz.out]; exact hl1) (by rw [← HT.out, ← hsz.out]; exact hl2) DF.out hi)
              have hsg : sgn (negB s.data.toList) u = (-(u : Int)) := by rw [HN.out]; rfl
              rw [hsg] at Y hi
              have E := Lib.hid (show decS (-(u : Int)) = s from by rw [decS, hi])
              clear hi hsg
              go_wp2_with fail
              refine (l01Dec_any (-(u : Int)) _ (by omega) (by omega)).mono ?_; rw [E.out]; rintro e w1 ⟨rfl, hb1⟩
              go_wp2_with fail
              go_ret2
              exact NumC.some_ Y.out hb1
            · have Y := Lib.hid (numO_no DF.out hi)
              have hsg : sgn (negB s.data.toList) u = (-(u : Int)) := by rw [HN.out]; rfl
              rw [hsg] at hi
              have E : ¬ decS (-(u : Int)) = s := fun h => hi (by rw [← h, decS])
              clear hi hsg
              obtain ⟨D9, hD9⟩ : ∃ D9, decS (-(u : Int)) = D9 := ⟨_, rfl⟩
              have hcon := l01Dec_any (-(u : Int)) w (by omega) (by omega)
              rw [hD9] at hcon E
              have hq : (D9.toList == s.toList) = false := str_ne E
              clear hD9 E
              go_wp2_with fail
              refine hcon.mono ?_; rintro e w1 ⟨rfl, hb1⟩
              go_wp2_with fail
              go_ret2
              exact NumC.none_ Y.out hb1
      · have hg : (T.size : Int) < 1 ∨ (¬ (T.size : Int) < 1 ∧ (18 : Int) < (T.size : Int)) := by omega
        have B := Lib.hid (numO_len (l := s.data.toList) (by rw [← HT.out, ← hsz.out]; exact hlen2))
        clear hlen2
        rcases hg with hg | ⟨hg, hg2⟩
        all_goals
          go_enter Tryz.func46, Tryz.ntmps46
          go_wp2_with fail
          go_ret2
          exact NumC.none_ B.out (Below.refl _ _)
    · have h45' : ((s[0].toNat : Int) == 45) = false := by
        rw [beq_eq_false_iff_ne]
        intro h
        exact h45 (UInt8.toNat_inj.1 (by have h1 : s[0].toNat = 45 := (by omega); rw [h1]; rfl))
      obtain ⟨T, hT⟩ : ∃ T, s = T := ⟨_, rfl⟩
      have hTd : T.data.toList = bodyL s.data.toList := by
        rw [← hT]
        have := hhead.out
        cases e : s.data.toList with
        | nil => rfl
        | cons c r =>
          rw [e] at this
          simp only [List.getElem?_cons_zero, Option.some.injEq] at this
          rw [bodyL, if_neg (by rw [this]; exact h45)]
      have hTn : negB s.data.toList = false := by
        have := hhead.out
        rw [negB, List.head?_eq_getElem?, this]
        simpa using h45
      clear h45
      subst hT
      have HT := Lib.hid (show s.data.toList = bodyL s.data.toList from hTd)
      have HN := Lib.hid (show negB s.data.toList = false from hTn)
      have hsz := Lib.hid (Lib.size_eq s)
      clear hTd hTn
      by_cases hlen2 : 1 ≤ s.size ∧ s.size ≤ 18
      · obtain ⟨hl1, hl2⟩ := hlen2
        have hg1 : ¬ (s.size : Int) < 1 := by omega
        have hg2 : ¬ (18 : Int) < (s.size : Int) := by omega
        go_enter Tryz.func46, Tryz.ntmps46
        go_wp2_with fail
        go_loopw [5, 6] (fun v t wr => ∃ (k u : Nat), k ≤ s.size ∧ t = .int .i64 k ∧ v = .int .i64 u ∧ Lib.decFrom 0 (s.data.toList.take k) = some u ∧ u < 10 ^ k ∧ w = wr) (fun _ t _ => s.size - (intOf t).toNat)
        case atStart => exact ⟨0, 0, Nat.zero_le _, rfl, rfl, rfl, by simp, rfl⟩
        case round =>
          obtain ⟨k, u, hk, rfl, rfl, hd, hu, rfl⟩ := hrel
          have D := Lib.hid hd
          clear hd
          by_cases hkt : k < s.size
          · have hb := get_list hkt
            have HBy := Lib.hid hb
            clear hb
            have hp := pow_18 (k := k) (by omega)
            have hu0 : u < 100000000000000000 := by omega
            have HU := Lib.hid hu
            clear hu hp
            rcases Bool.eq_false_or_eq_true (inB (s[k].toNat : Int) 48 57) with g | g
            · obtain ⟨g0, g1⟩ := inB_true.1 g
              have DV := Lib.hid (Lib.decFrom_take _ k 0 u _ _ D.out HBy.out (digitVal_some g))
              have G := Lib.hid g
              clear g
              have hc0 : 0 ≤ (s[k].toNat : Int) - 48 := by omega
              have hc1 : (s[k].toNat : Int) - 48 ≤ 9 := by omega
              have hn0 : u * 10 + (s[k].toNat - 48) < 10 ^ (k + 1) := by have := HU.out; rw [Nat.pow_succ]; omega
              have HN0 := Lib.hid hn0
              clear hn0
              go_wp2_with (go_at_call 64; refine (asB (l01Digit_any _ _) G.out).mono ?_; rintro e w' ⟨rfl, rfl⟩)
              go_roundw
              case rel => exact ⟨k + 1, u * 10 + (s[k].toNat - 48), by omega, by go_num, by rw [show ((u * 10 + (s[k].toNat - 48) : Nat) : Int) = 10 * (u : Int) + ((s[k].toNat : Int) - 48) by omega], DV.out, HN0.out, trivial⟩
              case measure => simp [intOf]; omega
            · have B := Lib.hid (numO_bad (l := s.data.toList) (by rw [← HT.out]; exact decFrom_bad _ 0 k _ HBy.out (digitVal_none g)))
              have G := Lib.hid g
              clear g
              go_wp2_with (go_at_call 64; refine (asB (l01Digit_any _ _) G.out).mono ?_; rintro e w' ⟨rfl, rfl⟩)
              go_ret2
              exact NumC.none_ B.out (Below.refl _ _)
          · obtain rfl : k = s.size := by omega
            have hp := pow_18' (k := s.size) (by omega)
            have hu0 : u < 1000000000000000000 := by omega
            have DF := Lib.hid (show Lib.decFrom 0 (bodyL s.data.toList) = some u by rw [← HT.out, ← D.out, List.take_of_length_le (by rw [← hsz.out]; exact Nat.le_refl _)])
            clear hu hp
            have hcmp : ¬ (s.size : Int) < (s.size : Int) := by omega
            by_cases hi : Lib.itoa (sgn (negB s.data.toList) u) = s.data.toList
            · have Y := Lib.hid (numO_yes (by rw [← HT.out, ← hsz.out]; exact hl1) (by rw [← HT.out, ← hsz.out]; exact hl2) DF.out hi)
              have hsg : sgn (negB s.data.toList) u = (u : Int) := by rw [HN.out]; rfl
              rw [hsg] at Y hi
              have E := Lib.hid (show decS (u : Int) = s from by rw [decS, hi])
              clear hi hsg
              go_wp2_with fail
              refine (l01Dec_any (u : Int) _ (by omega) (by omega)).mono ?_; rw [E.out]; rintro e w1 ⟨rfl, hb1⟩
              go_wp2_with fail
              go_ret2
              exact NumC.some_ Y.out hb1
            · have Y := Lib.hid (numO_no DF.out hi)
              have hsg : sgn (negB s.data.toList) u = (u : Int) := by rw [HN.out]; rfl
              rw [hsg] at hi
              have E : ¬ decS (u : Int) = s := fun h => hi (by rw [← h, decS])
              clear hi hsg
              obtain ⟨D9, hD9⟩ : ∃ D9, decS (u : Int) = D9 := ⟨_, rfl⟩
              have hcon := l01Dec_any (u : Int) w (by omega) (by omega)
              rw [hD9] at hcon E
              have hq : (D9.toList == s.toList) = false := str_ne E
              clear hD9 E
              go_wp2_with fail
              refine hcon.mono ?_; rintro e w1 ⟨rfl, hb1⟩
              go_wp2_with fail
              go_ret2
              exact NumC.none_ Y.out hb1
      · have hg : (s.size : Int) < 1 ∨ (¬ (s.size : Int) < 1 ∧ (18 : Int) < (s.size : Int)) := by omega
        have B := Lib.hid (numO_len (l := s.data.toList) (by rw [← HT.out, ← hsz.out]; exact hlen2))
        clear hlen2
        rcases hg with hg | ⟨hg, hg2⟩
        all_goals
          go_enter Tryz.func46, Tryz.ntmps46
          go_wp2_with fail
          go_ret2
          exact NumC.none_ B.out (Below.refl _ _)
end Go.Proofs.YtoghgbbepjpelaaGreatDoor
