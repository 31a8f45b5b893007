/- The contracts of ReadyRacks, the reference's and the program's. -/
import Derived.Test.YtoghgbbepjpelaaV2
import Derived.Test.YtoghgbbepjpelaaLs
namespace Go.Proofs.Ytoghgbbepjpelaa
open Go.RowKit
set_option linter.unusedVariables false

/-- Those of the first k racks whose bricks are dry. -/
def readyL (xs : List Rack) (s : ByteArray) (d : Nat) : Nat → List Int
  | 0 => []
  | k + 1 => readyL xs s d k ++ (if readyB s (nt xs k) d = true then [(k : Int)] else [])
theorem readyL_len (xs : List Rack) (s : ByteArray) (d : Nat) : ∀ k, (readyL xs s d k).length ≤ k := by
  intro k
  induction k with
  | zero => simp [readyL]
  | succ k ih => rw [readyL, List.length_append]; split <;> simp <;> omega
theorem readyL_yes {xs : List Rack} {s : ByteArray} {d k : Nat} (h : readyB s (nt xs k) d = true) : (readyL xs s d (k + 1)).map (Value.int .i64) = (readyL xs s d k).map (Value.int .i64) ++ [.int .i64 (k : Int)] := by
  rw [readyL, if_pos h, List.map_append]; rfl
theorem readyL_no {xs : List Rack} {s : ByteArray} {d k : Nat} (h : readyB s (nt xs k) d = false) : readyL xs s d (k + 1) = readyL xs s d k := by
  rw [readyL, h]; simp
def rrC (xs : List Rack) (s : ByteArray) (d : Int) : Int := if bothC xs s = 0 then (if inB d 0 s.size = true then 0 else 2) else bothC xs s
def rrL (xs : List Rack) (s : ByteArray) (d : Int) : List Int := if rrC xs s d = 0 then readyL xs s d.toNat xs.length else []

set_option maxHeartbeats 1000000 in
theorem specReadyRacks_any (A : Option Addr) (n c : Nat) (xs : List Rack) (s : ByteArray) (d : Int) (w : World) (hA : RackS w A n xs) (hs : s.size ≤ 9223372036854775807) :
    Calls Try.prog 39 #[.slice A n c, .string s, .int .i64 d] w (ListC (rrL xs s d) (rrC xs s d) w) := by
  have hn := hA.bound
  by_cases g : bothC xs s = 0
  · have gb : (bothC xs s == 0) = true := by simpa using g
    rcases Bool.eq_false_or_eq_true (inB d 0 s.size) with g1 | g1
    · have R := Lib.hid (show rrC xs s d = 0 by rw [rrC, if_pos g, if_pos g1])
      have q1 := inB_true.1 g1
      obtain ⟨m, rfl⟩ := Int.eq_ofNat_of_zero_le (show 0 ≤ d by omega)
      have E := Lib.hid (show rrL xs s m = readyL xs s m n by rw [rrL, if_pos R.out, hA.len]; rfl)
      obtain ⟨ok, hW⟩ := bothC_zero g
      have h20 := racksOk_len ok
      rw [hA.len] at h20
      have hm : m ≤ s.size := by omega
      have L := Lib.hid hA.len
      have OK := Lib.hid ok; have HW := Lib.hid hW; have G := Lib.hid g; have G1 := Lib.hid g1; clear ok hW g g1 gb q1
      go_enter Try.func39, Try.ntmps39
      go_wp2_with fail
      refine (l15Both_any _ _ _ xs s _ hA hs).mono ?_; rw [G.out]; rintro e w1 ⟨rfl, hb1⟩; have hz1 := hb1.size
      go_wp2_with fail
      refine (asB (in_any _ _ _ _) G1.out).mono ?_; rintro e w' ⟨rfl, rfl⟩
      go_wp2_with fail
      go_loopw [9, 10] (fun v i wr => ∃ k : Nat, k ≤ n ∧ i = .int .i64 k ∧ OwnS wr w.heap.size 2 v ((readyL xs s m k).map (.int .i64)) ∧ Below w.heap.size w wr) (fun _ i _ => n - (intOf i).toNat)
      case atStart => exact ⟨0, Nat.zero_le _, rfl, OwnS.made' (by omega) rfl, bel_tr hb1 (by go_grown)⟩
      case round =>
        obtain ⟨k, hk, rfl, hO, hB⟩ := hrel
        have HO := Lib.hid hO; clear hO
        have hz := hB.size
        by_cases hlt : k < n
        · obtain ⟨b, off, rfl, hb, hc⟩ := (hA.below hB).cell (by omega)
          have HC := Lib.hid (hc k hlt); clear hc
          have hok := racksOk_at OK.out (k := k) (by rw [L.out]; exact hlt)
          have hlen := readyL_len xs s m k
          rcases Bool.eq_false_or_eq_true (readyB s (nt xs k) m) with q | q
          · have Q := Lib.hid (readyL_yes q)
            have QB := Lib.hid q; clear q
            go_wp2_with fail
            refine (asB (l15Ready_any _ _ (nt xs k) s m _ HC.out hok hs HW.out hm) QB.out).mono ?_; rintro e w2 ⟨rfl, hb2⟩
            have HO2 := Lib.hid (HO.out.below hb2)
            have hz2 : w.heap.size ≤ w2.heap.size := Nat.le_trans hz hb2.size
            have hB2 := bel_tr hB hb2
            have HL := Lib.hid (show ((readyL xs s m k).map (Value.int .i64)).length ≤ 1048576 by rw [List.length_map]; omega)
            go_wp2_with (at_builtin; refine wpList_app1 _ rfl (.tmp 39) (.tmp 41) 24 rfl (w.heap.size) 2 (.int .i64 0) 8 Try.underlying24 info_i64 rfl _ _ (HO2.out) rfl _ _ rfl (by simp) rfl HL.out (by omega) hz2 ?_; intro v3 w3 hO3 hk3 hs3)
            have hB3 := hk3 (Nat.le_refl _) hB2
            go_roundw
            case rel => exact ⟨k + 1, by omega, by go_num, by rw [Q.out]; exact hO3, hB3⟩
            case measure => simp [intOf]; omega
          · have Q := Lib.hid (readyL_no (xs := xs) q)
            have QB := Lib.hid q; clear q
            go_wp2_with fail
            refine (asB (l15Ready_any _ _ (nt xs k) s m _ HC.out hok hs HW.out hm) QB.out).mono ?_; rintro e w2 ⟨rfl, hb2⟩
            have HO2 := Lib.hid (HO.out.below hb2)
            have hB2 := bel_tr hB hb2
            go_wp2_with fail
            go_roundw
            case rel => exact ⟨k + 1, by omega, by go_num, by rw [Q.out]; exact HO2.out, hB2⟩
            case measure => simp [intOf]; omega
        · obtain rfl : n = k := by omega
          go_wp2
          go_ret2
          rw [E.out, R.out]
          exact ListC.own HO.out (Nat.le_trans (readyL_len xs s m n) (by omega)) (Nat.le_refl _) hB
    · have R := Lib.hid (show rrC xs s d = 2 by rw [rrC, if_pos g, g1]; rfl)
      have E := Lib.hid (show rrL xs s d = [] by rw [rrL, R.out]; rfl)
      have G := Lib.hid g; have G1 := Lib.hid g1; clear g g1 gb
      go_enter Try.func39, Try.ntmps39
      go_wp2_with fail
      refine (l15Both_any _ _ _ xs s _ hA hs).mono ?_; rw [G.out]; rintro e w1 ⟨rfl, hb1⟩; have hz1 := hb1.size
      go_wp2_with fail
      refine (asB (in_any _ _ _ _) G1.out).mono ?_; rintro e w' ⟨rfl, rfl⟩
      go_wp2_with fail
      go_ret2
      rw [E.out, R.out]
      exact ListC.none_ hb1
  · have R := Lib.hid (show rrC xs s d = bothC xs s by rw [rrC, if_neg g])
    have E := Lib.hid (show rrL xs s d = [] by rw [rrL, R.out, if_neg g])
    have g2 : (bothC xs s == 0) = false := by simpa using g
    have g3 : (bothC xs s != 0) = true := by simpa using g
    clear g
    go_enter Try.func39, Try.ntmps39
    go_wp2_with fail
    refine (l15Both_any _ _ _ xs s _ hA hs).mono ?_; rintro e w1 ⟨rfl, hb1⟩; have hz1 := hb1.size
    go_wp2_with fail
    go_ret2
    rw [E.out, R.out]
    exact ListC.none_ hb1

set_option maxHeartbeats 1000000 in
theorem implReadyRacks_any (A : Option Addr) (n c : Nat) (xs : List Rack) (s : ByteArray) (d : Int) (w : World) (hA : RackS w A n xs) (hs : s.size ≤ 9223372036854775807) :
    Calls Try.prog 38 #[.slice A n c, .string s, .int .i64 d] w (ListC (rrL xs s d) (rrC xs s d) w) := by
  have hn := hA.bound
  by_cases g : bothC xs s = 0
  · have gb : (bothC xs s == 0) = true := by simpa using g
    rcases Bool.eq_false_or_eq_true (inB d 0 s.size) with g1 | g1
    · have R := Lib.hid (show rrC xs s d = 0 by rw [rrC, if_pos g, if_pos g1])
      have q1 := inB_true.1 g1
      obtain ⟨m, rfl⟩ := Int.eq_ofNat_of_zero_le (show 0 ≤ d by omega)
      have E := Lib.hid (show rrL xs s m = readyL xs s m n by rw [rrL, if_pos R.out, hA.len]; rfl)
      obtain ⟨ok, hW⟩ := bothC_zero g
      have h20 := racksOk_len ok
      rw [hA.len] at h20
      have hm : m ≤ s.size := by omega
      have L := Lib.hid hA.len
      have OK := Lib.hid ok; have HW := Lib.hid hW; have G := Lib.hid g; have G1 := Lib.hid g1; clear ok hW g g1 gb q1
      go_enter Try.func38, Try.ntmps38
      go_wp2_with fail
      refine (racksCode_any _ _ _ xs s _ hA hs).mono ?_; rw [G.out]; rintro e w1 ⟨rfl, hb1⟩; have hz1 := hb1.size
      go_wp2_with fail
      refine (asB (within_any _ _ _ _) G1.out).mono ?_; rintro e w' ⟨rfl, rfl⟩
      go_wp2_with fail
      go_loopw [9, 30] (fun v i wr => ∃ k : Nat, k ≤ n ∧ i = .int .i64 k ∧ OwnS wr w.heap.size 2 v ((readyL xs s m k).map (.int .i64)) ∧ Below w.heap.size w wr) (fun _ i _ => n - (intOf i).toNat)
      case atStart => exact ⟨0, Nat.zero_le _, rfl, OwnS.made' (by omega) rfl, bel_tr hb1 (by go_grown)⟩
      case round =>
        obtain ⟨k, hk, rfl, hO, hB⟩ := hrel
        have HO := Lib.hid hO; clear hO
        have hz := hB.size
        by_cases hlt : k < n
        · obtain ⟨b, off, rfl, hb, hc⟩ := (hA.below hB).cell (by omega)
          obtain ⟨hq0, hq1, hq2, hq3⟩ := hc k hlt
          clear hc
          have hok := racksOk_at OK.out (k := k) (by rw [L.out]; exact hlt)
          have hlen := readyL_len xs s m k
          rcases Bool.eq_false_or_eq_true (readyB s (nt xs k) m) with q | q
          · have Q := Lib.hid (readyL_yes q)
            have QB := Lib.hid q; clear q
            have HL := Lib.hid (show ((readyL xs s m k).map (Value.int .i64)).length ≤ 1048576 by rw [List.length_map]; omega)
            go_wp2_with fail
            refine (asB (isReady_any (nt xs k) s m _ hok hs HW.out hm) QB.out).mono ?_; rintro e w2 ⟨rfl, hb2⟩
            have hB2 := bel_tr (hB.alloc hz _) hb2
            have HO2 := Lib.hid ((HO.out.alloc _).below hb2)
            have hz2 : w.heap.size ≤ w2.heap.size := hB2.size
            go_wp2_with (at_builtin; refine wpList_app1 _ rfl (.tmp 39) (.tmp 41) 24 rfl (w.heap.size) 2 (.int .i64 0) 8 Try.underlying24 info_i64 rfl _ _ (HO2.out) rfl _ _ rfl (by simp) rfl HL.out (by omega) hz2 ?_; intro v3 w3 hO3 hk3 hs3)
            have hB3 := hk3 (Nat.le_refl _) hB2
            go_roundw
            case rel => exact ⟨k + 1, by omega, by go_num, by rw [Q.out]; exact hO3, hB3⟩
            case measure => simp [intOf]; omega
          · have Q := Lib.hid (readyL_no (xs := xs) q)
            have QB := Lib.hid q; clear q
            go_wp2_with fail
            refine (asB (isReady_any (nt xs k) s m _ hok hs HW.out hm) QB.out).mono ?_; rintro e w2 ⟨rfl, hb2⟩
            have hB2 := bel_tr (hB.alloc hz _) hb2
            have HO2 := Lib.hid ((HO.out.alloc _).below hb2)
            go_wp2_with fail
            go_roundw
            case rel => exact ⟨k + 1, by omega, by go_num, by rw [Q.out]; exact HO2.out, hB2⟩
            case measure => simp [intOf]; omega
        · obtain rfl : n = k := by omega
          go_wp2
          go_ret2
          rw [E.out, R.out]
          exact ListC.own HO.out (Nat.le_trans (readyL_len xs s m n) (by omega)) (Nat.le_refl _) hB
    · have R := Lib.hid (show rrC xs s d = 2 by rw [rrC, if_pos g, g1]; rfl)
      have E := Lib.hid (show rrL xs s d = [] by rw [rrL, R.out]; rfl)
      have G := Lib.hid g; have G1 := Lib.hid g1; clear g g1 gb
      go_enter Try.func38, Try.ntmps38
      go_wp2_with fail
      refine (racksCode_any _ _ _ xs s _ hA hs).mono ?_; rw [G.out]; rintro e w1 ⟨rfl, hb1⟩; have hz1 := hb1.size
      go_wp2_with fail
      refine (asB (within_any _ _ _ _) G1.out).mono ?_; rintro e w' ⟨rfl, rfl⟩
      go_wp2_with fail
      go_ret2
      rw [E.out, R.out]
      exact ListC.none_ hb1
  · have R := Lib.hid (show rrC xs s d = bothC xs s by rw [rrC, if_neg g])
    have E := Lib.hid (show rrL xs s d = [] by rw [rrL, R.out, if_neg g])
    have g2 : (bothC xs s == 0) = false := by simpa using g
    have g3 : (bothC xs s != 0) = true := by simpa using g
    clear g
    go_enter Try.func38, Try.ntmps38
    go_wp2_with fail
    refine (racksCode_any _ _ _ xs s _ hA hs).mono ?_; rintro e w1 ⟨rfl, hb1⟩; have hz1 := hb1.size
    go_wp2_with fail
    go_ret2
    rw [E.out, R.out]
    exact ListC.none_ hb1
end Go.Proofs.Ytoghgbbepjpelaa
