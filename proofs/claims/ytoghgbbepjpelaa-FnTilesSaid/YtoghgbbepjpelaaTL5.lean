/- The contract of RepeatTile on patterns. -/
import Derived.Test.YtoghgbbepjpelaaTL4
import Derived.Test.YtoghgbbepjpelaaSh
namespace Go.Proofs.Ytoghgbbepjpelaa
open Go.RowKit
set_option linter.unusedVariables false

theorem own_cap {w : World} {base : Nat} {v : Value} {xs : List (List UInt8)} (h : OwnS w base 9 v (txtV xs)) (hn : xs.length ≤ 1048576) :
    ∃ g cap, v = .slice (some ⟨g, 0, none⟩) xs.length cap ∧ base ≤ g ∧ xs.length ≤ cap ∧ RowsS w (some ⟨g, 0, none⟩) xs.length xs := by
  obtain ⟨g, cap, e, hg, hR⟩ := own_rows h hn
  refine ⟨g, cap, e, hg, ?_, hR⟩
  obtain ⟨g', cap', e', _, ho⟩ := h
  subst e
  simp only [txtV_len] at ho e'
  rcases ho.2 with ⟨h, _⟩ | ⟨g2, cap2, cur, h, _, _, hc, _⟩
  · cases h
  · simp only [Value.slice.injEq, Option.some.injEq, Addr.mk.injEq, and_true, true_and] at e' h
    omega
/-- A tile again and again, and a code. -/
def RtC (xs : List (List UInt8)) (n a b : Nat) (w : World) (e : Ending) (w' : World) : Prop :=
  ∃ g cap, e = .returned (.tuple #[.slice (some ⟨g, 0, none⟩) (b * n) cap, .int .i64 0]) ∧ b * n ≤ cap ∧ RowsS w' (some ⟨g, 0, none⟩) (b * n) (repF xs n a b) ∧ Below w.heap.size w w'
set_option maxRecDepth 20000 in
set_option maxHeartbeats 8000000 in
theorem implRepeatTile_any (A : Option Addr) (n c W a b : Nat) (xs : List (List UInt8)) (w : World) (hp : PatOk W n xs) (hA : RowsS w A n xs) (ha1 : 1 ≤ a) (ha2 : a ≤ 24) (hb1 : 1 ≤ b) (hb2 : b ≤ 24) (hab : a * W ≤ 24) (hbn : b * n ≤ 24) :
    Calls Try.prog 26 #[.slice A n c, .int .i64 a, .int .i64 b] w (RtC xs n a b w) := by
  have hn := hA.bound
  have hH := hp.h1; have hH2 := hp.h2; have hW := hp.w1; have hW2 := hp.w2
  obtain ⟨bb, off, rfl⟩ := rows_some hA (by omega)
  obtain ⟨b', off', he, hb, hc⟩ := hA.cell (by omega)
  simp only [Option.some.injEq, Addr.mk.injEq, and_true] at he
  obtain ⟨rfl, rfl⟩ := he
  have V := Lib.hid (implValidPattern_any _ n c W xs w hp hA)
  have C0 := Lib.hid (fun (X : World) (hX : Below w.heap.size w X) => (show X.cell? ⟨bb, off, none⟩ = some (.string ⟨(nt xs 0).toArray⟩) from by
    have h := (hX.cell (p := ⟨bb, off + 0, none⟩) hb).trans (hc 0 (by omega))
    rwa [Nat.add_zero] at h))
  have CK := Lib.hid (fun (X : World) (hX : Below w.heap.size w X) (k : Nat) (hk : k < n) => (hX.cell (p := ⟨bb, off + k, none⟩) hb).trans (hc k hk))
  have RW := Lib.hid hp.row
  have z0 : (⟨(nt xs 0).toArray⟩ : ByteArray).size = W := by rw [txt_size, hp.row 0 (by omega)]
  generalize (⟨(nt xs 0).toArray⟩ : ByteArray) = s0 at *
  have m1 : IntKind.i64.wrap ((s0.size : Int) * (a : Int)) = ((a * W : Nat) : Int) := by
    rw [z0, ← Int.natCast_mul, Nat.mul_comm]; exact IntWalk.i64_in _ (by omega)
  have m2 : IntKind.i64.wrap ((n : Int) * (b : Int)) = ((b * n : Nat) : Int) := by
    rw [← Int.natCast_mul, Nat.mul_comm]; exact IntWalk.i64_in _ (by omega)
  obtain ⟨p1, hp1⟩ : ∃ p, a * W = p := ⟨_, rfl⟩
  obtain ⟨p2, hp2⟩ : ∃ p, b * n = p := ⟨_, rfl⟩
  rw [hp1] at m1 hab
  rw [hp2] at m2 hbn
  have HP2 := Lib.hid hp2
  have d1 : decide ((24 : Int) < (p1 : Int)) = false := decide_eq_false (by omega)
  have d2 : decide ((24 : Int) < (p2 : Int)) = false := decide_eq_false (by omega)
  have G1 := Lib.hid (show inB (a : Int) 1 24 = true from inB_true.2 (by omega))
  have G2 := Lib.hid (show inB (b : Int) 1 24 = true from inB_true.2 (by omega))
  obtain ⟨f, hf⟩ : ∃ f : Nat → List UInt8, (fun y => Lib.repeatL (nt xs (y % n)) a) = f := ⟨_, rfl⟩
  have HG := Lib.hid (show repF xs n a b = rowsF f p2 by rw [← hf, ← hp2]; rfl)
  have F := Lib.hid (fun y => (congrFun hf y).symm)
  have HK := Lib.hid (fun (k : Nat) (hk : k < b) => (show k * n + n ≤ p2 by rw [← hp2, ← Nat.succ_mul]; exact Nat.mul_le_mul_right n hk))
  have Z := Lib.hid z0
  have hn0 : (0 : Int) < (n : Int) := by omega
  clear hA hp hc hf hp1 hp2 z0
  go_enter Try.func26, Try.ntmps26
  go_wp2_with fail
  refine V.out.mono ?_; rintro e w1 ⟨rfl, hbl⟩
  have HB1 := Lib.hid hbl
  have hc0 := C0.out _ hbl
  have hz1 := hbl.size
  clear hbl V
  go_wp2_with fail
  refine (asB (within_any _ _ _ _) G1.out).mono ?_; rintro e w' ⟨rfl, rfl⟩
  go_wp2_with fail
  refine (asB (within_any _ _ _ _) G2.out).mono ?_; rintro e w' ⟨rfl, rfl⟩
  have HO0 := Lib.hid (OwnS.made' (e := 9) (w := w1) (base := w.heap.size) hz1 rfl)
  have HB2 := Lib.hid (HB1.out.alloc hz1 (.cells #[] 9))
  go_wp2_with fail
  clear hc0 m1 m2 d1 d2
  go_loopw [8, 41] (fun o i wr => ∃ k : Nat, k ≤ b ∧ i = .int .i64 k ∧ OwnS wr w.heap.size 9 o (txtV (rowsF f (k * n))) ∧ Below w.heap.size w wr) (fun _ i _ => b - (intOf i).toNat)
  case atStart => exact ⟨0, Nat.zero_le _, rfl, by rw [Nat.zero_mul]; exact HO0.out, HB2.out⟩
  case round =>
    obtain ⟨k, hk, rfl, hO, hbel⟩ := hrel
    have HO := Lib.hid hO; have HB := Lib.hid hbel
    clear hO hbel HO0 HB2
    by_cases hlt : k < b
    · have hkn := HK.out k hlt
      obtain ⟨M, hM⟩ : ∃ M, k * n = M := ⟨_, rfl⟩
      rw [hM] at HO hkn
      have HM := Lib.hid hM
      clear hM
      go_wp2_with fail
      go_loopw [8, 45] (fun o i wr => ∃ j : Nat, j ≤ n ∧ i = .int .i64 j ∧ OwnS wr w.heap.size 9 o (txtV (rowsF f (M + j))) ∧ Below w.heap.size w wr) (fun _ i _ => n - (intOf i).toNat)
      case atStart => exact ⟨0, Nat.zero_le _, rfl, HO.out, HB.out⟩
      case round =>
        obtain ⟨j, hj, rfl, hO, hbel⟩ := hrel
        have HO := Lib.hid hO; have HB := Lib.hid hbel
        clear hO
        by_cases hlj : j < n
        · have hck := CK.out _ hbel j hlj
          have HT : Hid (Lib.repeatL ((⟨(nt xs j).toArray⟩ : ByteArray).data.toList) a = f (M + j)) := Lib.hid (by
            rw [F.out, ← HM.out, Nat.add_comm, Nat.add_mul_mod_self_right, Nat.mod_eq_of_lt hlj])
          have hts : (⟨(nt xs j).toArray⟩ : ByteArray).size = s0.size := by rw [txt_size, RW.out j hlj, Z.out]
          generalize (⟨(nt xs j).toArray⟩ : ByteArray) = t at *
          have hmul : t.size * a ≤ 1000 := by
            have := Nat.mul_le_mul (show t.size ≤ 24 by have := Z.out; omega) ha2
            omega
          have R := Lib.hid (fun X => Try.strings_Repeat t a X (by omega) (by omega))
          rw [HT.out] at R
          clear hbel hts hmul
          go_wp2_with fail
          refine (R.out _).mono ?_; rintro e w3 ⟨rfl, hb3⟩
          have HO3 := Lib.hid (HO.out.below hb3)
          have HB3 := Lib.hid (bel_tr HB.out hb3)
          have hz3 := HB3.out.size
          have HU := Lib.hid (show txtV (rowsF f (M + j + 1)) = txtV (rowsF f (M + j)) ++ [.string ⟨(f (M + j)).toArray⟩] by rw [rowsF_next, txtV_snoc])
          have HL := Lib.hid (show (txtV (rowsF f (M + j))).length ≤ 1048576 by rw [txtV_len, rowsF_len]; omega)
          clear hb3 R
          go_wp2_with (at_builtin; refine wpList_app1 _ rfl (.tmp 49) (.tmp 53) 33 rfl w.heap.size 9 (.string ⟨#[]⟩) 16 Try.underlying33 info_txt rfl _ _ HO3.out rfl (.string ⟨(f (M + j)).toArray⟩) _ rfl rfl rfl HL.out (by omega) hz3 ?_; intro v7 w7 hO7 hk7 hs7)
          have hB7 := hk7 (Nat.le_refl _) HB3.out
          go_roundw
          case rel => exact ⟨j + 1, by omega, by go_num, by rw [← Nat.add_assoc, HU.out]; exact hO7, hB7⟩
          case measure => simp [intOf]; omega
        · obtain rfl : n = j := by omega
          clear hbel
          go_wp2_with fail
          go_roundw
          case rel => exact ⟨k + 1, by omega, by go_num, by rw [Nat.succ_mul, HM.out]; exact HO.out, HB.out⟩
          case measure => simp [intOf]; omega
    · obtain rfl : b = k := by omega
      go_wp2_with fail
      go_ret2
      obtain ⟨g', cap', e, hg', hcap, hR⟩ := own_cap HO.out (by rw [rowsF_len, HP2.out]; omega)
      rw [rowsF_len] at e hR hcap
      subst e
      exact ⟨g', cap', rfl, hcap, by rw [HG.out, HP2.out]; rw [HP2.out] at hR; exact hR, HB.out⟩
end Go.Proofs.Ytoghgbbepjpelaa
