/- Numbers as texts: the reference's l01Dec. -/
import Derived.Test.YtoghgbbepjpelaaDoorRows
import Derived.Test.YtoghgbbepjpelaaDoorAp3
import Derived.Lib.ItoaNum
import Derived.Lib.ItoaLen
namespace Go.Proofs.YtoghgbbepjpelaaDoor
open Go.RowKit
set_option linter.unusedVariables false

/-- The digits of a number; none of zero. -/
def digs (u : Nat) : List UInt8 := if h : u = 0 then [] else digs (u / 10) ++ [UInt8.ofNat (48 + u % 10)]
termination_by u
decreasing_by omega
theorem digs_zero : digs 0 = [] := by rw [digs, dif_pos rfl]
theorem digs_pos {u : Nat} (h : u ≠ 0) : digs u = digs (u / 10) ++ [UInt8.ofNat (48 + u % 10)] := by rw [digs, dif_neg h]
theorem digs_dec {u : Nat} (h : u ≠ 0) : digs u = Lib.decDigits u := by
  induction u using Nat.strongRecOn with
  | _ u ih =>
    rw [digs_pos h, Lib.decDigits]
    by_cases h1 : u < 10
    · rw [dif_pos h1, show u / 10 = 0 by omega, digs_zero, show u % 10 = u by omega]; rfl
    · rw [dif_neg h1, ih (u / 10) (by omega) (by omega)]
/-- A number as a text. -/
def decS (n : Int) : ByteArray := ⟨(Lib.itoa n).toArray⟩
theorem decS_size (n : Int) (h0 : -9223372036854775808 ≤ n) (h1 : n ≤ 9223372036854775807) : (decS n).size ≤ 21 := by
  have := Lib.itoa_length_le n h0 h1
  show (Lib.itoa n).toArray.size ≤ 21
  simpa using this
theorem digs_len (u : Nat) : ∀ k, u < 10 ^ k → (digs u).length ≤ k := by
  intro k
  induction k generalizing u with
  | zero => intro h; rw [show u = 0 by omega, digs_zero]; exact Nat.le_refl _
  | succ k ih =>
    intro h
    by_cases h0 : u = 0
    · rw [h0, digs_zero]; exact Nat.zero_le _
    · rw [digs_pos h0, List.length_append, List.length_singleton]
      have := ih (u / 10) (by rw [Nat.pow_succ] at h; omega)
      omega
theorem neg_tmod (a : Nat) : (-(a : Int)).tmod 10 = -((a % 10 : Nat) : Int) := by rw [Int.neg_tmod]; rfl
theorem neg_tdiv (a : Nat) : (-(a : Int)).tdiv 10 = -((a / 10 : Nat) : Int) := by rw [Int.neg_tdiv]; rfl

theorem digs_step {n k : Nat} {l : List UInt8} (h : digs n = digs k ++ l) (hk : k ≠ 0) : digs n = digs (k / 10) ++ (UInt8.ofNat (48 + k % 10) :: l) := by
  rw [h, digs_pos hk, List.append_assoc]; rfl
theorem byte_step (k : Nat) (l : List UInt8) : Lib.byteCells (UInt8.ofNat (48 + k % 10) :: l) = [.int .u8 (48 + (k : Int) % 10)] ++ Lib.byteCells l := by
  have hm := Nat.mod_lt k (show 10 > 0 by omega)
  have e : ((UInt8.ofNat (48 + k % 10)).toNat : Int) = 48 + (k : Int) % 10 := by
    rw [UInt8.toNat_ofNat', Nat.mod_eq_of_lt (by omega)]; omega
  simp only [Lib.byteCells, List.map_cons, e]; rfl
theorem byteOne {l : List UInt8} : ∀ u ∈ Lib.byteCells l, u.oneCell' = true := fun u hu => by
  obtain ⟨c, _, rfl⟩ := List.mem_map.1 hu
  rfl
theorem alloc_atS {w : World} {b o : Nat} {v : Value} (h : w.cell? ⟨b, o, none⟩ = some v) (hb : b < w.heap.size) (x : Obj) : (w.alloc x).cell? ⟨b, o, none⟩ = some v :=
  (((Below.refl w.heap.size w).alloc (Nat.le_refl _) x).cell (p := ⟨b, o, none⟩) hb).trans h
set_option maxHeartbeats 2000000 in
theorem l01Dec_pos (n : Nat) (w : World) (h1 : n ≤ 9223372036854775807) :
    Calls Tryd.prog 58 #[.int .i64 (n : Int)] w fun e w' => e = .returned (.string (decS n)) ∧ Below w.heap.size w w' := by
  go_enter Tryd.func58, Tryd.ntmps58
  go_wp2
  go_loopw [3, 4] (fun v t wr => ∃ (k : Nat) (l : List UInt8), k ≤ n ∧ t = .int .i64 (k : Int) ∧ OwnBy wr w.heap.size 5 v l ∧ digs n = digs k ++ l ∧ Below w.heap.size w wr) (fun _ t _ => (intOf t).toNat)
  case atStart => exact ⟨n, [], Nat.le_refl _, rfl, OwnS.made' (Nat.le_refl _) rfl, by simp, by go_grown⟩
  case round =>
    obtain ⟨k, l, hk, rfl, hO, hd, hB⟩ := hrel
    have HO := Lib.hid hO; have D := Lib.hid hd
    have hz := hB.size
    obtain ⟨g, cap, rfl, hgl, hgb, hcell⟩ := hO.cells
    have HC := Lib.hid hcell
    have hl30 : l.length ≤ 30 := by
      have h2 := congrArg List.length hd
      rw [List.length_append] at h2
      have := digs_len n 20 (by omega)
      omega
    clear hO hd hcell
    by_cases hk0 : k = 0
    · subst hk0
      have D2 := Lib.hid (show digs n = l by rw [D.out, digs_zero]; rfl)
      by_cases hn0 : n = 0
      · have hl0 : l.length = 0 := by rw [← D2.out, hn0, digs_zero]; rfl
        rw [hl0]
        subst hn0
        go_wp2
        go_ret
        exact ⟨by rw [decS, Lib.itoa]; simp [Lib.decDigits_one], hB⟩
      · have hl1 : ¬ (l.length : Int) = 0 := by
          rw [← D2.out, digs_pos hn0]; simp; omega
        have hl2 : ((l.length : Int) == 0) = false := by rw [beq_eq_false_iff_ne]; exact hl1
        have R := Lib.hid (show decS (n : Int) = ⟨l.toArray⟩ by
          rw [decS, Lib.itoa, if_neg (by omega), Int.toNat_natCast, ← digs_dec hn0, D2.out])
        have hcv := run_convert_bytes_back (P := Tryd.prog) wr 29 9 5 ⟨g, 0, none⟩ cap l Tryd.underlying29 Tryd.underlying5 Tryd.underlying9 (byteCell_of HC.out)
        have hng : ¬ (n : Int) < 0 := by omega
        clear hl1
        go_wp2
        go_ret
        rw [R.out]
        exact ⟨rfl, hB⟩
    · have hm := Nat.mod_lt k (show 10 > 0 by omega)
      have HL := Lib.hid (show (1 + l.length : Nat) ≤ 1048576 by omega)
      have hk1 : ((k : Int) != 0) = true := by rw [bne_iff_ne]; omega
      have hk2 : 0 ≤ (k : Int) % 10 := by omega
      have hk3 : (k : Int) % 10 ≤ 9 := by omega
      go_wp2_with (at_builtin; refine wpList_appS _ rfl (.tmp 21) (.tmp 22) 29 rfl w.heap.size 5 (.int .u8 0) 1 Tryd.underlying29 info_u8B rfl _ _ (OwnS.one hz rfl) rfl g l.length cap (Lib.byteCells l) rfl (Lib.byteCells_length l) (fun j u hj => alloc_atS (HC.out j u hj) hgl _) byteOne HL.out (by omega) (by simp; omega) ?_; intro v2 w2 hO2 hk2 hs2)
      have hB2 := hk2 (Nat.le_refl _) (hB.alloc hz (.cells #[.int .u8 (48 + (k : Int) % 10)] 5))
      have D2 := Lib.hid (digs_step D.out hk0)
      have C2 := Lib.hid (byte_step k l)
      go_roundw
      case rel => exact ⟨k / 10, _, by omega, by go_num, by rw [OwnBy, C2.out]; exact hO2, D2.out, hB2⟩
      case measure => simp [intOf]; omega
set_option maxHeartbeats 2000000 in
theorem l01Dec_neg (n : Nat) (w : World) (h0 : 0 < n) (h1 : n ≤ 9223372036854775808) :
    Calls Tryd.prog 58 #[.int .i64 (-(n : Int))] w fun e w' => e = .returned (.string (decS (-(n : Int)))) ∧ Below w.heap.size w w' := by
  go_enter Tryd.func58, Tryd.ntmps58
  go_wp2
  go_loopw [3, 4] (fun v t wr => ∃ (k : Nat) (l : List UInt8), k ≤ n ∧ t = .int .i64 (-(k : Int)) ∧ OwnBy wr w.heap.size 5 v l ∧ digs n = digs k ++ l ∧ Below w.heap.size w wr) (fun _ t _ => (intOf t).natAbs)
  case atStart => exact ⟨n, [], Nat.le_refl _, rfl, OwnS.made' (Nat.le_refl _) rfl, by simp, by go_grown⟩
  case round =>
    obtain ⟨k, l, hk, rfl, hO, hd, hB⟩ := hrel
    have HO := Lib.hid hO; have D := Lib.hid hd
    have hz := hB.size
    obtain ⟨g, cap, rfl, hgl, hgb, hcell⟩ := hO.cells
    have HC := Lib.hid hcell
    have hl30 : l.length ≤ 30 := by
      have h2 := congrArg List.length hd
      rw [List.length_append] at h2
      have := digs_len n 20 (by omega)
      omega
    clear hO hd hcell
    by_cases hk0 : k = 0
    · subst hk0
      have D2 := Lib.hid (show digs n = l by rw [D.out, digs_zero]; rfl)
      have hl2 : ((l.length : Int) == 0) = false := by
        rw [beq_eq_false_iff_ne, ← D2.out, digs_pos (by omega)]; simp; omega
      have R := Lib.hid (show decS (-(n : Int)) = ⟨(45 :: l).toArray⟩ by
        rw [decS, Lib.itoa, if_pos (by omega), Int.natAbs_neg, Int.natAbs_natCast, ← digs_dec (by omega), D2.out])
      have hcv := run_convert_bytes_back (P := Tryd.prog) wr 29 9 5 ⟨g, 0, none⟩ cap l Tryd.underlying29 Tryd.underlying5 Tryd.underlying9 (byteCell_of HC.out)
      have hng : -(n : Int) < 0 := by omega
      go_wp2
      go_ret
      rw [R.out]
      exact ⟨rfl, hB⟩
    · have hm := Nat.mod_lt k (show 10 > 0 by omega)
      have HL := Lib.hid (show (1 + l.length : Nat) ≤ 1048576 by omega)
      have hk1 : (-(k : Int) != 0) = true := by rw [bne_iff_ne]; omega
      have ht := neg_tmod k
      have hd := neg_tdiv k
      have D2 := Lib.hid (digs_step D.out hk0)
      have C2 := Lib.hid (byte_step k l)
      by_cases hz0 : k % 10 = 0
      · have hi : (k : Int) % 10 = 0 := by omega
        rw [hi] at C2
        rw [hz0] at ht
        clear hi hz0
        have ht2 : (-(k : Int)).tmod 10 = 0 := by rw [ht]; rfl
        clear ht
        go_wp2_with (at_builtin; refine wpList_appS _ rfl (.tmp 21) (.tmp 22) 29 rfl w.heap.size 5 (.int .u8 0) 1 Tryd.underlying29 info_u8B rfl _ _ (OwnS.one hz rfl) rfl g l.length cap (Lib.byteCells l) rfl (Lib.byteCells_length l) (fun j u hj => alloc_atS (HC.out j u hj) hgl _) byteOne HL.out (by omega) (by simp; omega) ?_; intro v2 w2 hO2 hk2 hs2)
        have hB2 := hk2 (Nat.le_refl _) (hB.alloc hz (.cells #[.int .u8 48] 5))
        go_roundw
        case rel => exact ⟨k / 10, _, by omega, by go_num, by rw [OwnBy, C2.out]; exact hO2, D2.out, hB2⟩
        case measure => simp [intOf]; omega
      · obtain ⟨d, hdd⟩ : ∃ d : Nat, k % 10 = d := ⟨_, rfl⟩
        have hi : (k : Int) % 10 = (d : Int) := by omega
        rw [hi] at C2
        rw [hdd] at ht hm hz0 D2 C2
        have hd1 : -(d : Int) < 0 := by omega
        have hd2 : 0 ≤ (d : Int) := by omega
        have hd3 : (d : Int) ≤ 9 := by omega
        have hneg : -(-(d : Int)) = (d : Int) := by omega
        clear hi hdd
        go_wp2_with (at_builtin; refine wpList_appS _ rfl (.tmp 21) (.tmp 22) 29 rfl w.heap.size 5 (.int .u8 0) 1 Tryd.underlying29 info_u8B rfl _ _ (OwnS.one hz rfl) rfl g l.length cap (Lib.byteCells l) rfl (Lib.byteCells_length l) (fun j u hj => alloc_atS (HC.out j u hj) hgl _) byteOne HL.out (by omega) (by simp; omega) ?_; intro v2 w2 hO2 hk2 hs2)
        have hB2 := hk2 (Nat.le_refl _) (hB.alloc hz (.cells #[.int .u8 (48 + (d : Int))] 5))
        go_roundw
        case rel => exact ⟨k / 10, _, by omega, by go_num, by rw [OwnBy, C2.out]; exact hO2, D2.out, hB2⟩
        case measure => simp [intOf]; omega
theorem l01Dec_any (n : Int) (w : World) (h0 : -9223372036854775808 ≤ n) (h1 : n ≤ 9223372036854775807) :
    Calls Tryd.prog 58 #[.int .i64 n] w fun e w' => e = .returned (.string (decS n)) ∧ Below w.heap.size w w' := by
  by_cases h : 0 ≤ n
  · obtain ⟨m, rfl⟩ := Int.eq_ofNat_of_zero_le h
    exact l01Dec_pos m w (by omega)
  · obtain ⟨m, hm⟩ : ∃ m : Nat, n = -(m : Int) := ⟨n.natAbs, by omega⟩
    subst hm
    exact l01Dec_neg m w (by omega) (by omega)
end Go.Proofs.YtoghgbbepjpelaaDoor
