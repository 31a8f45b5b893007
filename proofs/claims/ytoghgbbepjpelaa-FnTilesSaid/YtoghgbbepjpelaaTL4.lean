/- The contract of LeastTile on patterns. -/
import Derived.Test.YtoghgbbepjpelaaTL3
namespace Go.Proofs.Ytoghgbbepjpelaa
open Go.RowKit
set_option linter.unusedVariables false

theorem take_txt (l : List UInt8) (k : Nat) : (⟨l.toArray⟩ : ByteArray).extract 0 k = ⟨(l.take k).toArray⟩ := by
  rw [Lib.extract_eq]
  show (⟨(List.take (k - 0) (List.drop 0 l.toArray.toList)).toArray⟩ : ByteArray) = _
  rw [List.toList_toArray, List.drop_zero, Nat.sub_zero]
/-- A tile and a code. -/
def LtC (W n : Nat) (xs : List (List UInt8)) (w : World) (e : Ending) (w' : World) : Prop :=
  ∃ wv hv g cap, e = .returned (.tuple #[.slice (some ⟨g, 0, none⟩) hv cap, .int .i64 0]) ∧ LeastN (PerX (ext2 xs W n)) W wv ∧ LeastN (PerY (ext2 xs W n)) n hv ∧ RowsS w' (some ⟨g, 0, none⟩) hv (tileF xs wv hv) ∧ Below w.heap.size w w'
theorem rem_nat {a b : Nat} (h : 1 ≤ b) : ((a : Int).tmod (b : Int) = ((a % b : Nat) : Int)) ∧ ((a : Int) % (b : Int) = ((a % b : Nat) : Int)) := by
  refine ⟨?_, by omega⟩
  rw [Int.tmod_eq_emod_of_nonneg (by omega)]; omega
theorem not_least {P : Nat → Prop} {W k : Nat} (hs : P W) (hk : k ≤ W) (h : W % k = 0 → ¬ P k) : k < W := by
  rcases Nat.lt_or_ge k W with h1 | h1
  · exact h1
  · obtain rfl : k = W := by omega
    exact absurd hs (h (Nat.mod_self _))
set_option maxRecDepth 20000 in
set_option maxHeartbeats 8000000 in
theorem implLeastTile_any (A : Option Addr) (n c W : Nat) (xs : List (List UInt8)) (w : World) (hp : PatOk W n xs) (hA : RowsS w A n xs) (hcap : n ≤ c) :
    Calls Try.prog 24 #[.slice A n c] w (LtC W n xs w) := by
  have hn := hA.bound
  have hH := hp.h1; have hH2 := hp.h2; have hW := hp.w1; have hW2 := hp.w2
  obtain ⟨b, off, rfl⟩ := rows_some hA (by omega)
  obtain ⟨b', off', he, hb, hc⟩ := hA.cell (by omega)
  simp only [Option.some.injEq, Addr.mk.injEq, and_true] at he
  obtain ⟨rfl, rfl⟩ := he
  have HA := Lib.hid hA
  have HP := Lib.hid hp
  have V := Lib.hid (implValidPattern_any _ n c W xs w hp hA)
  have SX := Lib.hid (fun (r : Nat) (X : World) h1 (h2 : r ≤ 1000) => (show Calls Try.prog 61 #[.slice (some ⟨b, off, none⟩) n c, .int .i64 r, .int .i64 0] X (ShC X (shiftF xs W n (r % W) 0)) from by
    have h := shifted_any (some ⟨b, off, none⟩) n c W r 0 xs X hp h1 h2 (by omega)
    rw [Nat.zero_mod] at h; exact h))
  have SY := Lib.hid (fun (u : Nat) (X : World) h1 (h2 : u ≤ 1000) => (show Calls Try.prog 61 #[.slice (some ⟨b, off, none⟩) n c, .int .i64 0, .int .i64 u] X (ShC X (shiftF xs W n 0 (u % n))) from by
    have h := shifted_any (some ⟨b, off, none⟩) n c W 0 u xs X hp h1 (by omega) h2
    rw [Nat.zero_mod] at h; exact h))
  have RW := Lib.hid hp.row
  have C0 := Lib.hid (fun (X : World) (hX : Below w.heap.size w X) => (show X.cell? ⟨b, off, none⟩ = some (.string ⟨(nt xs 0).toArray⟩) from by
    have h := (hX.cell (p := ⟨b, off + 0, none⟩) hb).trans (hc 0 (by omega))
    rwa [Nat.add_zero] at h))
  have CK := Lib.hid (fun (X : World) (hX : Below w.heap.size w X) (k : Nat) (hk : k < n) => (hX.cell (p := ⟨b, off + k, none⟩) hb).trans (hc k hk))
  have z0 : (⟨(nt xs 0).toArray⟩ : ByteArray).size = W := by rw [txt_size, hp.row 0 (by omega)]
  generalize (⟨(nt xs 0).toArray⟩ : ByteArray) = s0 at *
  subst z0
  have hn0 : (0 : Int) < (n : Int) := by omega
  clear hA hp hc
  go_enter Try.func24, Try.ntmps24
  go_wp2_with fail
  refine V.out.mono ?_; rintro e w1 ⟨rfl, hb1⟩
  have HB1 := Lib.hid hb1
  clear hb1 V
  go_wp2_with fail
  go_loopw [4] (fun i wr => ∃ k : Nat, 1 ≤ k ∧ k ≤ s0.size ∧ i = .int .i64 k ∧ (∀ v, 1 ≤ v → v < k → s0.size % v = 0 → ¬ PerX (ext2 xs s0.size n) v) ∧ Below w.heap.size w wr) (fun i _ => s0.size - (intOf i).toNat)
  case atStart => exact ⟨1, Nat.le_refl _, hW, rfl, fun v h1 h2 => absurd h2 (by omega), HB1.out⟩
  case round =>
    obtain ⟨k, hk1, hk2, rfl, hmin, hbel⟩ := hrel
    have hc0 := C0.out _ hbel
    have MIN := Lib.hid hmin; have HB := Lib.hid hbel
    have hr := rem_nat (a := s0.size) hk1
    have r1 := hr.1; have r2 := hr.2
    have m0 : ((k : Int) == 0) = false := by rw [beq_eq_false_iff_ne]; omega
    have m1 : ¬ (k : Int) = 0 := by omega
    have m2 : ¬ k = 0 := by omega
    clear hmin hbel hr HB1
    by_cases hd : s0.size % k = 0
    · rw [hd] at r1 r2
      have HD := Lib.hid hd; clear hd
      go_wp2_with fail
      refine (SX.out k _ (HA.out.below HB.out) (by omega)).mono ?_; rintro e w2 ⟨g2, cap2, rfl, hg2, hR2, hb2⟩
      have HR2 := Lib.hid hR2
      have B2 := bel_tr HB.out hb2
      clear hR2 hb2 hg2
      go_wp2_with fail
      refine (equalRows_any _ _ _ _ _ _ _ xs _ HR2.out (HA.out.below B2) (by rw [shiftF, rowsF_len])).mono ?_; rintro e w3 ⟨⟨t, rfl, ht⟩, hb3⟩
      have T := Lib.hid (ht.trans (shift_x HP.out))
      have HB3 := Lib.hid (bel_tr B2 hb3)
      clear ht hb3 B2 HR2
      cases t with
      | false =>
        have hkW : k < s0.size := not_least perX_self hk2 (fun _ h => (by have := T.out.2 h; cases this))
        go_wp2_with fail
        go_roundw
        case rel => exact ⟨k + 1, by omega, by omega, by go_num, fun v h1 h2 h3 h4 => (by
          rcases Nat.lt_or_ge v k with h5 | h5
          · exact MIN.out v h1 h5 h3 h4
          · obtain rfl : v = k := by omega
            have := T.out.2 h4; cases this), HB3.out⟩
        case measure => simp [intOf]; omega
      | true =>
        have LX := Lib.hid (show LeastN (PerX (ext2 xs s0.size n)) s0.size k from ⟨hk1, hk2, HD.out, T.out.1 rfl, MIN.out⟩)
        clear r1 r2 m0 m1 m2 T MIN HD HB
        go_wp2_with fail
        go_loopw [5] (fun i wr => ∃ h : Nat, 1 ≤ h ∧ h ≤ n ∧ i = .int .i64 h ∧ (∀ v, 1 ≤ v → v < h → n % v = 0 → ¬ PerY (ext2 xs s0.size n) v) ∧ Below w.heap.size w wr) (fun i _ => n - (intOf i).toNat)
        case atStart => exact ⟨1, Nat.le_refl _, hH, rfl, fun v h1 h2 => absurd h2 (by omega), HB3.out⟩
        case round =>
          obtain ⟨h, hh1, hh2, rfl, hmin, hbel⟩ := hrel
          have MIN := Lib.hid hmin; have HB := Lib.hid hbel
          have hr := rem_nat (a := n) hh1
          have r1 := hr.1; have r2 := hr.2
          have m0 : ((h : Int) == 0) = false := by rw [beq_eq_false_iff_ne]; omega
          have m1 : ¬ (h : Int) = 0 := by omega
          have m2 : ¬ h = 0 := by omega
          clear hmin hbel hr HB3
          by_cases hd : n % h = 0
          · rw [hd] at r1 r2
            have HD := Lib.hid hd; clear hd
            go_wp2_with fail
            refine (SY.out h _ (HA.out.below HB.out) (by omega)).mono ?_; rintro e w4 ⟨g4, cap4, rfl, hg4, hR4, hb4⟩
            have HR4 := Lib.hid hR4
            have B4 := bel_tr HB.out hb4
            clear hR4 hb4 hg4
            go_wp2_with fail
            refine (equalRows_any _ _ _ _ _ _ _ xs _ HR4.out (HA.out.below B4) (by rw [shiftF, rowsF_len])).mono ?_; rintro e w5 ⟨⟨t, rfl, ht⟩, hb5⟩
            have T := Lib.hid (ht.trans (shift_y HP.out))
            have HB5 := Lib.hid (bel_tr B4 hb5)
            clear ht hb5 B4 HR4
            cases t with
            | false =>
              have hkW : h < n := not_least perY_self hh2 (fun _ h => (by have := T.out.2 h; cases this))
              go_wp2_with fail
              go_roundw
              case rel => exact ⟨h + 1, by omega, by omega, by go_num, fun v h1 h2 h3 h4 => (by
                rcases Nat.lt_or_ge v h with h5 | h5
                · exact MIN.out v h1 h5 h3 h4
                · obtain rfl : v = h := by omega
                  have := T.out.2 h4; cases this), HB5.out⟩
              case measure => simp [intOf]; omega
            | true =>
              have LY := Lib.hid (show LeastN (PerY (ext2 xs s0.size n)) n h from ⟨hh1, hh2, HD.out, T.out.1 rfl, MIN.out⟩)
              clear r1 r2 m0 m1 m2 T MIN HD HB
              have hhc : h ≤ c := by omega
              have hhc2 : (h : Int) ≤ (c : Int) := by omega
              have hz5 := HB5.out.size
              have HO0 := Lib.hid (OwnS.made' (e := 9) (w := w5) (base := w.heap.size) hz5 rfl)
              have HB6 := Lib.hid (HB5.out.alloc hz5 (.cells #[] 9))
              obtain ⟨f, hf⟩ : ∃ f : Nat → List UInt8, (fun y => (nt xs y).take k) = f := ⟨_, rfl⟩
              have HG := Lib.hid (show tileF xs k h = rowsF f h by rw [← hf]; rfl)
              have F := Lib.hid (fun y => (congrFun hf y).symm)
              have hkz : (k : Int) ≤ (s0.size : Int) := by omega
              clear hf
              go_wp2_with fail
              go_loopw [6, 49] (fun o i wr => ∃ j : Nat, j ≤ h ∧ i = .int .i64 j ∧ OwnS wr w.heap.size 9 o (txtV (rowsF f j)) ∧ Below w.heap.size w wr) (fun _ i _ => h - (intOf i).toNat)
              case atStart => exact ⟨0, Nat.zero_le _, rfl, HO0.out, HB6.out⟩
              case round =>
                obtain ⟨j, hj, rfl, hO, hbel⟩ := hrel
                have HO := Lib.hid hO; have HB := Lib.hid hbel
                have hz := hbel.size
                clear hO HO0 HB5 HB6
                by_cases hlt : j < h
                · have hck := CK.out _ hbel j (by omega)
                  have z1 : (⟨(nt xs j).toArray⟩ : ByteArray).size = s0.size := by rw [txt_size, RW.out j (by omega)]
                  have HT : Hid ((⟨(nt xs j).toArray⟩ : ByteArray).extract 0 k = ⟨(f j).toArray⟩) := Lib.hid (by rw [F.out j]; exact take_txt (nt xs j) k)
                  generalize (⟨(nt xs j).toArray⟩ : ByteArray) = t at *
                  have hkt : (k : Int) ≤ (t.size : Int) := by omega
                  have HL := Lib.hid (show (txtV (rowsF f j)).length = j by rw [txtV_len, rowsF_len])
                  have HU := Lib.hid (show txtV (rowsF f (j + 1)) = txtV (rowsF f j) ++ [.string (t.extract 0 k)] by rw [rowsF_next, txtV_snoc, ← HT.out])
                  clear hbel z1
                  go_wp2_with (at_builtin; refine wpList_app1 _ rfl (.tmp 53) (.tmp 57) 33 rfl w.heap.size 9 (.string ⟨#[]⟩) 16 Try.underlying33 info_txt rfl _ _ HO.out rfl (.string (t.extract 0 k)) _ rfl rfl rfl (by rw [HL.out]; omega) (by omega) hz ?_; intro v7 w7 hO7 hk7 hs7)
                  have hB7 := hk7 (Nat.le_refl _) HB.out
                  go_roundw
                  case rel => exact ⟨j + 1, by omega, by go_num, by rw [HU.out]; exact hO7, hB7⟩
                  case measure => simp [intOf]; omega
                · obtain rfl : h = j := by omega
                  go_wp2_with fail
                  go_ret2
                  obtain ⟨g', cap', e, hg', hR⟩ := own_rows HO.out (by rw [rowsF_len]; omega)
                  rw [rowsF_len] at e hR
                  subst e
                  exact ⟨k, h, g', cap', rfl, LX.out, LY.out, by rw [HG.out]; exact hR, hbel⟩
          · have hne : ((n % h : Nat) : Int) ≠ 0 := by omega
            have hne2 : (((n % h : Nat) : Int) != 0) = true := by simpa using hne
            have hkW : h < n := not_least (P := PerY (ext2 xs s0.size n)) perY_self hh2 (fun h => absurd h hd)
            obtain ⟨x, hx⟩ : ∃ x, n % h = x := ⟨_, rfl⟩
            rw [hx] at r1 r2 hne hne2
            have HD := Lib.hid hd
            clear hx hd
            go_wp2_with fail
            go_roundw
            case rel => exact ⟨h + 1, by omega, by omega, by go_num, fun v h1 h2 h3 h4 => (by
              rcases Nat.lt_or_ge v h with h5 | h5
              · exact MIN.out v h1 h5 h3 h4
              · obtain rfl : v = h := by omega
                exact HD.out h3), HB.out⟩
            case measure => simp [intOf]; omega
    · have hne : ((s0.size % k : Nat) : Int) ≠ 0 := by omega
      have hne2 : (((s0.size % k : Nat) : Int) != 0) = true := by simpa using hne
      have hkW : k < s0.size := not_least (P := PerX (ext2 xs s0.size n)) perX_self hk2 (fun h => absurd h hd)
      obtain ⟨x, hx⟩ : ∃ x, s0.size % k = x := ⟨_, rfl⟩
      rw [hx] at r1 r2 hne hne2
      have HD := Lib.hid hd
      clear hx hd
      go_wp2_with fail
      go_roundw
      case rel => exact ⟨k + 1, by omega, by omega, by go_num, fun v h1 h2 h3 h4 => (by
        rcases Nat.lt_or_ge v k with h5 | h5
        · exact MIN.out v h1 h5 h3 h4
        · obtain rfl : v = k := by omega
          exact HD.out h3), HB.out⟩
      case measure => simp [intOf]; omega
end Go.Proofs.Ytoghgbbepjpelaa
