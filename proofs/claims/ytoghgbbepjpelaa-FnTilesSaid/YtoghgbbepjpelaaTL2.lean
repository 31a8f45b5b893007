/- The contracts of ValidPattern, the program's and the reference's, on patterns. -/
import Derived.Test.YtoghgbbepjpelaaTL1
namespace Go.Proofs.Ytoghgbbepjpelaa
open Go.RowKit
set_option linter.unusedVariables false

theorem txt_size (l : List UInt8) : (⟨l.toArray⟩ : ByteArray).size = l.length := by rw [Lib.size_eq]
theorem PatOk.cells {W H : Nat} {xs : List (List UInt8)} {w : World} {A : Option Addr} {n : Nat} (h : PatOk W H xs) (hA : RowsS w A n xs) : n = H := hA.len.symm.trans h.len
theorem badRow_any (l : List UInt8) (W n c b1 b off : Nat) (l0 : List UInt8) (w : World) (hl : l.length = W) (h0 : l0.length = W) (w1 : 1 ≤ W) (w2 : W ≤ 24) (hd : ∀ c ∈ l, c = 35 ∨ c = 46) (hn : 1 ≤ n)
    (h1 : w.cell? ⟨b1, 0, none⟩ = some (.slice (some ⟨b, off, none⟩) n c)) (h2 : w.cell? ⟨b, off, none⟩ = some (.string ⟨l0.toArray⟩)) :
    Calls Try.prog 85 #[.string ⟨l.toArray⟩, .pointer (some ⟨b1, 0, none⟩)] w fun e w' => e = .returned (.bool false) ∧ w = w' := by
  have D := Lib.hid (fun W => onlyDots_any l W (by omega) hd)
  have z1 : (⟨l.toArray⟩ : ByteArray).size = W := by rw [txt_size, hl]
  have z2 : (⟨l0.toArray⟩ : ByteArray).size = W := by rw [txt_size, h0]
  generalize (⟨l.toArray⟩ : ByteArray) = s at *
  generalize (⟨l0.toArray⟩ : ByteArray) = s0 at *
  have g : inB (s.size : Int) 1 24 = true := inB_true.2 (by omega)
  have e1 : ((s.size : Int) != (s0.size : Int)) = false := by rw [z1, z2]; simp
  have G := Lib.hid g
  have hn0 : (0 : Int) < (n : Int) := by omega
  clear z1 z2 hl h0 g hd
  go_enter Try.func85, Try.ntmps85
  go_wp2_with fail
  refine (asB (within_any _ _ _ _) G.out).mono ?_; rintro e w' ⟨rfl, rfl⟩
  go_wp2_with fail
  refine (D.out _).mono ?_; rintro e w' ⟨rfl, rfl⟩
  go_wp2_with fail
  go_ret
  exact ⟨rfl, rfl⟩
theorem indexRow_any (b off n c : Nat) (W : Nat) (xs : List (List UInt8)) (b1 : Nat) (w : World) (hp : PatOk W n xs) (hA : RowsS w (some ⟨b, off, none⟩) n xs)
    (h1 : w.cell? ⟨b1, 0, none⟩ = some (.slice (some ⟨b, off, none⟩) n c)) :
    Calls Try.prog 102 #[.slice (some ⟨b, off, none⟩) n c, .func (.func 85) #[] #[.pointer (some ⟨b1, 0, none⟩)]] w fun e w' => e = .returned (.int .i64 (-1)) ∧ w = w' := by
  have hn := hA.bound
  have hH := hp.h1
  obtain ⟨b', off', he, hb, hc⟩ := hA.cell (by omega)
  simp only [Option.some.injEq, Addr.mk.injEq, and_true] at he
  obtain ⟨rfl, rfl⟩ := he
  have h0 := hc 0 (by omega)
  rw [Nat.add_zero] at h0
  have HC := Lib.hid hc; clear hc
  have R := Lib.hid (fun k (hk : k < n) => badRow_any (nt xs k) W n c b1 b off (nt xs 0) w (hp.row k hk) (hp.row 0 (by omega)) hp.w1 hp.w2 (hp.dot k hk) hH h1 h0)
  go_enter Try.func102, Try.ntmps102
  go_wp2
  go_loop [8] (fun i => ∃ k : Nat, k ≤ n ∧ i = .int .i64 k) (fun i => n - (intOf i).toNat)
  case atStart => exact ⟨0, Nat.zero_le _, rfl⟩
  case round =>
    obtain ⟨k, hk, rfl⟩ := hrel
    by_cases hlt : k < n
    · have hck := HC.out k hlt
      have r := R.out k hlt
      go_wp2_with (go_at_call 85; refine r.mono ?_; rintro e w' ⟨rfl, rfl⟩)
      go_round
      case rel => exact ⟨k + 1, by omega, by go_num⟩
      case measure => simp [intOf]; omega
    · obtain rfl : n = k := by omega
      go_wp2
      go_ret
      exact ⟨rfl, rfl⟩
theorem containsRow_any (b off n c : Nat) (W : Nat) (xs : List (List UInt8)) (b1 : Nat) (w : World) (hp : PatOk W n xs) (hA : RowsS w (some ⟨b, off, none⟩) n xs)
    (h1 : w.cell? ⟨b1, 0, none⟩ = some (.slice (some ⟨b, off, none⟩) n c)) :
    Calls Try.prog 84 #[.slice (some ⟨b, off, none⟩) n c, .func (.func 85) #[] #[.pointer (some ⟨b1, 0, none⟩)]] w fun e w' => e = .returned (.bool false) ∧ w = w' := by
  go_enter Try.func84, Try.ntmps84
  go_wp2_with (go_at_call 102; refine (indexRow_any b off n c W xs b1 _ hp hA h1).mono ?_; rintro e w' ⟨rfl, rfl⟩)
  go_ret
  exact ⟨rfl, rfl⟩
theorem rows_some {w : World} {A : Option Addr} {n : Nat} {xs : List (List UInt8)} (hA : RowsS w A n xs) (h : 0 < n) : ∃ b off, A = some ⟨b, off, none⟩ := by
  obtain ⟨b, off, e, _⟩ := hA.cell h
  exact ⟨b, off, e⟩
theorem implValidPattern_any (A : Option Addr) (n c W : Nat) (xs : List (List UInt8)) (w : World) (hp : PatOk W n xs) (hA : RowsS w A n xs) :
    Calls Try.prog 59 #[.slice A n c] w fun e w' => e = .returned (.bool true) ∧ Below w.heap.size w w' := by
  have hn := hA.bound
  have hH := hp.h1; have hH2 := hp.h2
  obtain ⟨b, off, rfl⟩ := rows_some hA (by omega)
  have g : inB (n : Int) 1 24 = true := inB_true.2 (by omega)
  have G := Lib.hid g; clear g
  have A1 : Below w.heap.size w (w.alloc (.cells #[.slice (some ⟨b, off, none⟩) n c] 33)) := (Below.refl _ _).alloc (Nat.le_refl _) _
  have C := Lib.hid (containsRow_any b off n c W xs w.heap.size _ hp (hA.below A1) (by go_simp))
  clear hp
  go_enter Try.func59, Try.ntmps59
  go_wp2_with fail
  refine (asB (within_any _ _ _ _) G.out).mono ?_; rintro e w' ⟨rfl, rfl⟩
  go_wp2_with fail
  refine C.out.mono ?_; rintro e w' ⟨rfl, rfl⟩
  go_wp2_with fail
  go_ret
  exact ⟨rfl, A1⟩

set_option maxHeartbeats 4000000 in
theorem l14Ok_any (A : Option Addr) (n c W : Nat) (xs : List (List UInt8)) (w : World) (hp : PatOk W n xs) (hA : RowsS w A n xs) :
    Calls Try.prog 62 #[.slice A n c] w fun e w' => e = .returned (.bool true) ∧ Below w.heap.size w w' := by
  have hn := hA.bound
  have hH := hp.h1; have hH2 := hp.h2; have hW := hp.w1; have hW2 := hp.w2
  obtain ⟨b, off, he, hb, hc⟩ := hA.cell (by omega)
  subst he
  have HC := Lib.hid hc; clear hc
  have RW := Lib.hid hp.row; have DT := Lib.hid hp.dot
  have G0 := Lib.hid (show inB (n : Int) 1 24 = true from inB_true.2 (by omega))
  clear hp hA
  go_enter Try.func62, Try.ntmps62
  go_wp2_with fail
  go_loopw [3, 4] (fun i x wr => (∃ k : Nat, k ≤ n ∧ i = .int .i64 k) ∧ Below w.heap.size w wr) (fun i _ _ => n - (intOf i).toNat)
  case atStart => exact ⟨⟨0, Nat.zero_le _, rfl⟩, Below.refl _ _⟩
  case round =>
    obtain ⟨⟨k, hk, rfl⟩, hbel⟩ := hrel
    by_cases hlt : k < n
    · have hck := (hbel.cell (p := ⟨b, off + k, none⟩) hb).trans (HC.out k hlt)
      have hc0 := (hbel.cell (p := ⟨b, off + 0, none⟩) hb).trans (HC.out 0 (by omega))
      rw [Nat.add_zero] at hc0
      have z1 : (⟨(nt xs k).toArray⟩ : ByteArray).size = W := by rw [txt_size, RW.out k hlt]
      have z2 : (⟨(nt xs 0).toArray⟩ : ByteArray).size = W := by rw [txt_size, RW.out 0 (by omega)]
      have HD := Lib.hid (fun x (hx : x < (⟨(nt xs k).toArray⟩ : ByteArray).size) => DT.out k hlt ((⟨(nt xs k).toArray⟩ : ByteArray)[x]) (by
        have hk2 : x < (nt xs k).length := by rw [txt_size] at hx; exact hx
        show (nt xs k).toArray[x] ∈ nt xs k
        simp))
      have CK := Lib.hid (fun (W : World) (hW : Below w.heap.size w W) => (hW.cell (p := ⟨b, off + k, none⟩) hb).trans (HC.out k hlt))
      generalize (⟨(nt xs k).toArray⟩ : ByteArray) = s at *
      generalize (⟨(nt xs 0).toArray⟩ : ByteArray) = s0 at *
      have G := Lib.hid (show inB (s.size : Int) 1 24 = true from inB_true.2 (by omega))
      have e1 : ((s.size : Int) != (s0.size : Int)) = false := by rw [z1, z2]; simp
      have Z := Lib.hid z1
      have hs24 : s.size ≤ 24 := by omega
      have HB := Lib.hid hbel
      clear z1 z2 hbel
      go_wp2_with fail
      go_quiet ((go_at_call 53; exact q_same (asB (in_any _ _ _ _) G.out)))
      go_wp2_with fail
      go_loopw [4] (fun x wr2 => ∃ j : Nat, j ≤ s.size ∧ x = .int .i64 j ∧ Below w.heap.size w wr2) (fun x _ => s.size - (intOf x).toNat)
      case atStart => exact ⟨0, Nat.zero_le _, rfl, below_drewN HB.out _⟩
      case round =>
        obtain ⟨j, hj, rfl, hb2⟩ := hrel
        have hck2 := CK.out _ hb2
        have HB2 := Lib.hid hb2
        by_cases hlj : j < s.size
        · have hd := HD.out j hlj
          have hjz : (j : Int) < (s.size : Int) := by omega
          clear hb2
          rcases hd with hd | hd
          · have e2 : ((s[j].toNat : Int) != 35) = false := by rw [hd]; decide
            clear hd
            go_wp2_with fail
            go_roundw
            case rel => exact ⟨j + 1, by omega, by go_num, HB2.out⟩
            case measure => simp [intOf]; omega
          · have e2 : ((s[j].toNat : Int) != 35) = true := by rw [hd]; decide
            have e3 : ((s[j].toNat : Int) != 46) = false := by rw [hd]; decide
            clear hd
            go_wp2_with fail
            go_roundw
            case rel => exact ⟨j + 1, by omega, by go_num, HB2.out⟩
            case measure => simp [intOf]; omega
        · obtain rfl : j = s.size := by omega
          have hjz : ¬ (s.size : Int) < (s.size : Int) := by omega
          clear hb2
          go_wp2_with fail
          go_roundw
          case rel => exact ⟨⟨k + 1, by omega, by go_num⟩, HB2.out⟩
          case measure => simp [intOf]; omega
    · obtain rfl : n = k := by omega
      go_wp2_with fail
      refine (asB (in_any _ _ _ _) G0.out).mono ?_; rintro e w' ⟨rfl, rfl⟩
      go_wp2_with fail
      go_ret
      exact ⟨rfl, hbel⟩
theorem specValidPattern_any (A : Option Addr) (n c W : Nat) (xs : List (List UInt8)) (w : World) (hp : PatOk W n xs) (hA : RowsS w A n xs) :
    Calls Try.prog 25 #[.slice A n c] w fun e w' => e = .returned (.bool true) ∧ Below w.heap.size w w' := by
  go_enter Try.func25, Try.ntmps25
  go_wp2_with fail
  refine (l14Ok_any A n c W xs _ hp hA).mono ?_; rintro e w1 ⟨rfl, hb1⟩
  go_wp2_with fail
  go_ret
  exact ⟨rfl, hb1⟩
end Go.Proofs.Ytoghgbbepjpelaa
