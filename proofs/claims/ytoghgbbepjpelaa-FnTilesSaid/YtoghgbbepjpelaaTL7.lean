/- The contracts of the drawn pattern: a tile again and again, A2Pattern. -/
import Derived.Test.YtoghgbbepjpelaaTL6
namespace Go.Proofs.Ytoghgbbepjpelaa
open Go.RowKit
set_option linter.unusedVariables false

theorem rep_next (l : List UInt8) (t : Nat) : (⟨(Lib.repeatL l t).toArray⟩ : ByteArray) ++ (⟨l.toArray⟩ : ByteArray) = ⟨(Lib.repeatL l (t + 1)).toArray⟩ := by
  refine Go.WideShapes.bytes_inj ?_
  rw [data_app]
  show (Lib.repeatL l t).toArray.toList ++ l.toArray.toList = (Lib.repeatL l (t + 1)).toArray.toList
  rw [List.toList_toArray, List.toList_toArray, List.toList_toArray, Lib.repeatL_add, Lib.repeatL_one]
def RepC (xs : List (List UInt8)) (n a b : Nat) (w : World) (e : Ending) (w' : World) : Prop :=
  ∃ v, e = .returned v ∧ OwnS w' w.heap.size 9 v (txtV (repF xs n a b)) ∧ Below w.heap.size w w'
set_option maxRecDepth 20000 in
set_option maxHeartbeats 8000000 in
theorem l14Repeat_any (A : Option Addr) (n c W a b : Nat) (xs : List (List UInt8)) (w : World) (hp : PatOk W n xs) (hA : RowsS w A n xs) (ha2 : a ≤ 24) (hb2 : b ≤ 24) :
    Calls Try.prog 83 #[.slice A n c, .int .i64 a, .int .i64 b] w (RepC xs n a b w) := by
  have hn := hA.bound
  have hH := hp.h1; have hH2 := hp.h2; have hW := hp.w1; have hW2 := hp.w2
  obtain ⟨bb, off, rfl⟩ := rows_some hA (by omega)
  obtain ⟨b', off', he, hb, hc⟩ := hA.cell (by omega)
  simp only [Option.some.injEq, Addr.mk.injEq, and_true] at he
  obtain ⟨rfl, rfl⟩ := he
  have CK := Lib.hid (fun (X : World) (hX : Below w.heap.size w X) (k : Nat) (hk : k < n) => (hX.cell (p := ⟨bb, off + k, none⟩) hb).trans (hc k hk))
  have RW := Lib.hid hp.row
  obtain ⟨f, hf⟩ : ∃ f : Nat → List UInt8, (fun y => Lib.repeatL (nt xs (y % n)) a) = f := ⟨_, rfl⟩
  have HG := Lib.hid (show repF xs n a b = rowsF f (b * n) by rw [← hf]; rfl)
  have F := Lib.hid (fun y => (congrFun hf y).symm)
  have HK := Lib.hid (fun (k : Nat) (hk : k < b) => (show k * n + n ≤ 576 by
    have h1 := Nat.mul_le_mul_right n (show k + 1 ≤ 24 by omega)
    rw [Nat.succ_mul] at h1; omega))
  have hbn : b * n ≤ 576 := by
    have h1 := Nat.mul_le_mul hb2 hH2
    omega
  have HBN := Lib.hid hbn
  have HO0 := Lib.hid (OwnS.made' (e := 9) (w := w) (base := w.heap.size) (Nat.le_refl _) rfl)
  have HB2 := Lib.hid ((Below.refl w.heap.size w).alloc (Nat.le_refl _) (.cells #[] 9))
  clear hA hp hc hf hbn
  go_enter Try.func83, Try.ntmps83
  go_wp2_with fail
  go_loopw [7, 8] (fun o i wr => ∃ k : Nat, k ≤ b ∧ i = .int .i64 k ∧ OwnS wr w.heap.size 9 o (txtV (rowsF f (k * n))) ∧ Below w.heap.size w wr) (fun _ i _ => b - (intOf i).toNat)
  case atStart => exact ⟨0, Nat.zero_le _, rfl, by rw [Nat.zero_mul]; exact HO0.out, HB2.out⟩
  case round =>
    obtain ⟨k, hk, rfl, hO, hbel⟩ := hrel
    have HO := Lib.hid hO; have HB := Lib.hid hbel
    clear hO hbel HO0 HB2
    by_cases hlt : k < b
    · have hkn := HK.out k hlt
      obtain ⟨M, hM⟩ : ∃ M, k * n = M := ⟨_, rfl⟩
      rw [hM] at HO hkn
      have HM := Lib.hid hM
      clear hM
      go_wp2_with fail
      go_loopw [7, 9] (fun o i wr => ∃ j : Nat, j ≤ n ∧ i = .int .i64 j ∧ OwnS wr w.heap.size 9 o (txtV (rowsF f (M + j))) ∧ Below w.heap.size w wr) (fun _ i _ => n - (intOf i).toNat)
      case atStart => exact ⟨0, Nat.zero_le _, rfl, HO.out, HB.out⟩
      case round =>
        obtain ⟨j, hj, rfl, hO, hbel⟩ := hrel
        have HO := Lib.hid hO; have HB := Lib.hid hbel
        clear hO
        by_cases hlj : j < n
        · have hck := CK.out _ hbel j hlj
          have HT : Hid (Lib.repeatL (nt xs j) a = f (M + j)) := Lib.hid (by
            rw [F.out, ← HM.out, Nat.add_comm, Nat.add_mul_mod_self_right, Nat.mod_eq_of_lt hlj])
          have HR : Hid (∀ t, (⟨(Lib.repeatL (nt xs j) t).toArray⟩ : ByteArray).size = t * W) := Lib.hid (fun t => by rw [txt_size, Lib.repeatL_length, RW.out j hlj])
          have HN : Hid (∀ t, (⟨(Lib.repeatL (nt xs j) t).toArray⟩ : ByteArray) ++ (⟨(nt xs j).toArray⟩ : ByteArray) = ⟨(Lib.repeatL (nt xs j) (t + 1)).toArray⟩) := Lib.hid (fun t => rep_next _ t)
          have HS : Hid ((⟨(nt xs j).toArray⟩ : ByteArray).size = W) := Lib.hid (by rw [txt_size, RW.out j hlj])
          obtain ⟨g, hg⟩ : ∃ g : Nat → ByteArray, (fun t => (⟨(Lib.repeatL (nt xs j) t).toArray⟩ : ByteArray)) = g := ⟨_, rfl⟩
          have HGt := fun t => congrFun hg t
          have HR : Hid (∀ t, (g t).size = t * W) := Lib.hid (fun t => by rw [← HGt t]; exact HR.out t)
          have HN : Hid (∀ t, g t ++ (⟨(nt xs j).toArray⟩ : ByteArray) = g (t + 1)) := Lib.hid (fun t => by rw [← HGt t, ← HGt (t + 1)]; exact HN.out t)
          have HGa : Hid (g a = ⟨(f (M + j)).toArray⟩) := Lib.hid (by rw [← HGt a, HT.out])
          have HG0 : Hid (g 0 = ⟨#[]⟩) := Lib.hid (by rw [← HGt 0]; rfl)
          clear hg HGt
          generalize (⟨(nt xs j).toArray⟩ : ByteArray) = s at *
          have HU := Lib.hid (show txtV (rowsF f (M + j + 1)) = txtV (rowsF f (M + j)) ++ [.string (g a)] by rw [rowsF_next, txtV_snoc, HGa.out])
          have HL := Lib.hid (show (txtV (rowsF f (M + j))).length ≤ 1048576 by rw [txtV_len, rowsF_len]; omega)
          have hz := HB.out.size
          clear hbel
          go_wp2_with fail
          go_loopw [10, 11] (fun o i wz => ∃ t : Nat, t ≤ a ∧ i = .int .i64 t ∧ o = .string (g t) ∧ wz = wr) (fun _ i _ => a - (intOf i).toNat)
          case atStart => exact ⟨0, Nat.zero_le _, rfl, by rw [HG0.out], rfl⟩
          case round =>
            obtain ⟨t, ht, rfl, rfl, rfl⟩ := hrel
            by_cases hta : t < a
            · have hsz : (g t).size ≤ 576 := by
                rw [HR.out t]
                have := Nat.mul_le_mul (show t ≤ 24 by omega) hW2
                omega
              have hss : s.size ≤ 24 := by rw [HS.out]; exact hW2
              have K : ∀ X : World, (Op.stringOp .add (g t) s).run Try.prog X = .ok (.string (g t ++ s)) X := fun X => run_string_add_sum X _ _ (by omega)
              clear hsz hss
              go_wp2_with fail
              go_roundw
              case rel => exact ⟨t + 1, by omega, by go_num, by rw [HN.out t], by first | trivial | rfl⟩
              case measure => simp [intOf]; omega
            · obtain rfl : a = t := by omega
              go_wp2_with (at_builtin; refine wpList_app1 _ rfl (.tmp 35) (.tmp 37) 33 rfl w.heap.size 9 (.string ⟨#[]⟩) 16 Try.underlying33 info_txt rfl _ _ HO.out rfl (.string (g a)) _ rfl rfl rfl HL.out (by omega) hz ?_; intro v7 w7 hO7 hk7 hs7)
              have hB7 := hk7 (Nat.le_refl _) HB.out
              go_roundw
              case rel => exact ⟨j + 1, by omega, by go_num, by rw [← Nat.add_assoc, HU.out]; exact hO7, hB7⟩
              case measure => simp [intOf]; omega
        · obtain rfl : n = j := by omega
          clear hbel
          go_wp2_with fail
          go_roundw
          case rel => exact ⟨k + 1, by omega, by go_num, by rw [Nat.succ_mul, HM.out]; exact HO.out, HB.out⟩
          case measure => simp [intOf]; omega
    · obtain rfl : b = k := by omega
      go_wp2_with fail
      go_ret
      exact ⟨_, rfl, by rw [HG.out]; exact HO.out, HB.out⟩
/-- A drawn pattern. -/
def PatD (p : Nat) (m : Int) (w : World) (e : Ending) (w' : World) : Prop := ∃ W n g cap xs, e = .returned (.slice (some ⟨g, 0, none⟩) n cap) ∧ PatOk W n xs ∧ W ≤ 12 ∧ n ≤ 9 ∧ n ≤ cap ∧ RowsS w' (some ⟨g, 0, none⟩) n xs ∧ Src w' p m ∧ Drew p w w'
theorem PatD.own {p : Nat} {m : Int} {W n base : Nat} {w w' : World} {v : Value} {xs : List (List UInt8)} (h : OwnS w' base 9 v (txtV xs)) (hp : PatOk W n xs) (hW : W ≤ 12) (hn : n ≤ 9) (hS : Src w' p m) (hD : Drew p w w') : PatD p m w (.returned v) w' := by
  have hl := hp.len
  obtain ⟨g, cap, rfl, hg, hcap, hR⟩ := own_cap h (by omega)
  rw [hl] at hcap hR ⊢
  exact ⟨W, n, g, cap, xs, rfl, hp, hW, hn, hcap, hR, hS, hD⟩
set_option maxHeartbeats 4000000 in
theorem l14Draw_any (p : Nat) (m : Int) (w : World) (h : Src w p m) (hm0 : 0 ≤ m) (hm : m ≤ 1000) :
    Calls Try.prog 58 #[.pointer (some ⟨p, 0, none⟩)] w (PatD p (m + 1000) w) := by
  have hp := h.lt
  go_enter Try.func58, Try.ntmps58
  go_wp2_with fail
  refine (pick_any p 4 m _ h (by omega)).mono ?_; rintro e w1 ⟨x, rfl, ⟨hx0, hx1⟩, hS1, hD1⟩
  obtain ⟨W, hW⟩ : ∃ W : Nat, 1 + x = (W : Int) := ⟨(1 + x).toNat, by omega⟩
  have hW1 : 1 ≤ W := by omega
  have hW4 : W ≤ 4 := by omega
  obtain rfl : x = (W : Int) - 1 := by omega
  have e1 : 1 + ((W : Int) - 1) = (W : Int) := by omega
  have HS1 := Lib.hid hS1; have HD1 := Lib.hid hD1
  have hz1 := hD1.size
  clear hS1 hD1 hx0 hx1 hW
  go_wp2_with fail
  refine (pick_any p 3 _ _ HS1.out (by omega)).mono ?_; rintro e w2 ⟨y, rfl, ⟨hy0, hy1⟩, hS2, hD2⟩
  obtain ⟨H, hH⟩ : ∃ H : Nat, 1 + y = (H : Int) := ⟨(1 + y).toNat, by omega⟩
  have hH1 : 1 ≤ H := by omega
  have hH3 : H ≤ 3 := by omega
  obtain rfl : y = (H : Int) - 1 := by omega
  have e2 : 1 + ((H : Int) - 1) = (H : Int) := by omega
  have HS2 := Lib.hid hS2; have HD2 := Lib.hid (HD1.out.trans hD2)
  have hz2 := hD2.size
  clear hS2 hD2 hy0 hy1 hH HS1 HD1
  go_wp2_with fail
  refine (l14Some_any p W H _ _ HS2.out (by omega) (by omega) hW1 (by omega) hH1 (by omega)).mono ?_; rintro e w3 ⟨v, xs, rfl, hO3, hp3, hS3, hD3⟩
  obtain ⟨g, cap, hv, hg, hcap, hR3⟩ := own_cap hO3 (by rw [hp3.len]; omega)
  subst hv
  have HO3 := Lib.hid hO3; have HS3 := Lib.hid hS3; have HD3 := Lib.hid (HD2.out.trans hD3); have HP3 := Lib.hid hp3
  have hz3 := hD3.size
  rw [hp3.len] at hR3
  have HR3 := Lib.hid hR3
  have HXL := Lib.hid hp3.len
  clear hO3 hS3 hD3 hp3 hR3 hcap HS2 HD2
  go_wp2_with fail
  refine (one_any p 2 _ _ HS3.out (by omega)).mono ?_; rintro e w4 ⟨t, rfl, hS4, hD4⟩
  have HO4 := Lib.hid (OwnS.grown HO3.out hD4 (by omega))
  have HR4 := Lib.hid (HR3.out.keptD hD4 (fun b off e => (by simp only [Option.some.injEq, Addr.mk.injEq, and_true] at e; omega)))
  have HS4 := Lib.hid hS4; have HD4 := Lib.hid (HD3.out.trans hD4)
  have hz4 := hD4.size
  clear hS4 hD4 HO3 HR3 HS3 HD3
  cases t with
  | false =>
    go_wp2_with fail
    go_ret
    exact PatD.own HO4.out HP3.out (by omega) (by omega) (HS4.out.mono (by omega)) HD4.out
  | true =>
    clear HO4
    go_wp2_with fail
    refine (pick_any p 3 _ _ HS4.out (by omega)).mono ?_; rintro e w5 ⟨x, rfl, ⟨hx0, hx1⟩, hS5, hD5⟩
    obtain ⟨a, ha⟩ : ∃ a : Nat, 1 + x = (a : Int) := ⟨(1 + x).toNat, by omega⟩
    have ha1 : 1 ≤ a := by omega
    have ha3 : a ≤ 3 := by omega
    obtain rfl : x = (a : Int) - 1 := by omega
    have e3 : 1 + ((a : Int) - 1) = (a : Int) := by omega
    have HR5 := Lib.hid (HR4.out.keptD hD5 (fun b off e => (by simp only [Option.some.injEq, Addr.mk.injEq, and_true] at e; omega)))
    have HS5 := Lib.hid hS5; have HD5 := Lib.hid (HD4.out.trans hD5)
    have hz5 := hD5.size
    clear hS5 hD5 hx0 hx1 ha HR4 HS4 HD4
    go_wp2_with fail
    refine (pick_any p 3 _ _ HS5.out (by omega)).mono ?_; rintro e w6 ⟨y, rfl, ⟨hy0, hy1⟩, hS6, hD6⟩
    obtain ⟨b, hb⟩ : ∃ b : Nat, 1 + y = (b : Int) := ⟨(1 + y).toNat, by omega⟩
    have hb1 : 1 ≤ b := by omega
    have hb3 : b ≤ 3 := by omega
    obtain rfl : y = (b : Int) - 1 := by omega
    have e4 : 1 + ((b : Int) - 1) = (b : Int) := by omega
    have HR6 := Lib.hid (HR5.out.keptD hD6 (fun b off e => (by simp only [Option.some.injEq, Addr.mk.injEq, and_true] at e; omega)))
    have HS6 := Lib.hid hS6; have HD6 := Lib.hid (HD5.out.trans hD6)
    have hz6 := hD6.size
    clear hS6 hD6 hy0 hy1 hb HR5 HS5 HD5
    have REP := Lib.hid (l14Repeat_any (some ⟨g, 0, none⟩) H cap W a b xs w6 HP3.out HR6.out (by omega) (by omega))
    have hxl := HXL.out
    go_wp2_with fail
    refine REP.out.mono ?_; rintro e w7 ⟨v, rfl, hO7, hb7⟩
    have HO7 := Lib.hid hO7
    have HS7 := Lib.hid (HS6.out.below hb7)
    have HD7 := Lib.hid (HD6.out.step (hb7.mono (by omega)))
    clear hO7 hb7 REP
    go_wp2_with fail
    go_ret
    have h1 := Nat.mul_le_mul ha3 hW4
    have h2 := Nat.mul_le_mul hb3 hH3
    exact PatD.own HO7.out (rep_ok HP3.out ha1 hb1 (by omega) (by omega)) (by omega) (by omega) (HS7.out.mono (by omega)) HD7.out

/-- A drawn pattern, behind the source. -/
def PatA (w : World) (e : Ending) (w' : World) : Prop := ∃ W n g cap xs, e = .returned (.slice (some ⟨g, 0, none⟩) n cap) ∧ PatOk W n xs ∧ W ≤ 12 ∧ n ≤ 9 ∧ n ≤ cap ∧ RowsS w' (some ⟨g, 0, none⟩) n xs ∧ Below w.heap.size w w'
theorem a2Pattern_any (A : Option Addr) (n c : Nat) (w : World) (h : Bys w A n) :
    Calls Try.prog 23 #[.slice A n c] w (PatA w) := by
  have HB := Lib.hid h; clear h
  go_enter Try.func23, Try.ntmps23
  go_wp2_with fail
  refine (from_any A n c _ HB.out).mono ?_; rintro e w1 ⟨p, rfl, hp, hS, hb1⟩
  have HS := Lib.hid hS; clear hS
  go_wp2_with fail
  refine (l14Draw_any p 0 _ HS.out (by omega) (by omega)).mono ?_; rintro e w2 ⟨W, n2, g, cap, xs, rfl, hpat, hW, hn2, hcap, hR, hS2, hD2⟩
  have HP := Lib.hid hpat; have HR := Lib.hid hR
  have HD2 := Lib.hid (hD2.below hb1 hb1.size hp)
  clear hS2 hD2 hpat hR
  go_wp2_with fail
  go_ret
  exact ⟨W, n2, g, cap, xs, rfl, HP.out, hW, hn2, hcap, HR.out, HD2.out⟩
end Go.Proofs.Ytoghgbbepjpelaa
