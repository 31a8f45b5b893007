/- The contract of impl.shifted on patterns. -/
import Derived.Test.YtoghgbbepjpelaaTL2
import Derived.Test.YtoghgbbepjpelaaApN
namespace Go.Proofs.Ytoghgbbepjpelaa
open Go.RowKit
set_option linter.unusedVariables false

theorem data_app (a b : ByteArray) : (a ++ b).data.toList = a.data.toList ++ b.data.toList := by
  rw [ByteArray.data_append, Array.toList_append]
theorem turn_txt (l : List UInt8) {W a : Nat} (hl : l.length = W) (ha : a ≤ W) : (⟨l.toArray⟩ : ByteArray).extract (W - a) W ++ (⟨l.toArray⟩ : ByteArray).extract 0 (W - a) = ⟨(turn l W a).toArray⟩ := by
  refine Go.WideShapes.bytes_inj ?_
  rw [data_app, Lib.extract_eq, Lib.extract_eq]
  show (List.take (W - (W - a)) (List.drop (W - a) l)).toArray.toList ++ (List.take (W - a - 0) (List.drop 0 l)).toArray.toList = (turn l W a).toArray.toList
  rw [List.toList_toArray, List.toList_toArray, List.toList_toArray, List.drop_zero, Nat.sub_zero, List.take_of_length_le (by rw [List.length_drop]; omega)]
  rfl
/-- Remainders, as the walk meets them. -/
structure RemF (r m a : Nat) : Prop where
  lt : a < m
  z0 : ((m : Int) == 0) = false
  z1 : ¬ (m : Int) = 0
  z2 : ¬ m = 0
  z3 : 0 < m
  t1 : (r : Int).tmod (m : Int) = (a : Int)
  t2 : (r : Int) % (m : Int) = (a : Int)
  t3 : IntKind.i64.wrap ((a : Int) + (m : Int)) = (a : Int) + (m : Int)
  t4 : ((a : Int) + (m : Int)).tmod (m : Int) = (a : Int)
  t5 : ((a : Int) + (m : Int)) % (m : Int) = (a : Int)
  t6 : 0 ≤ (a : Int) + (m : Int)
theorem RemF.mk' (r : Nat) {m : Nat} (h1 : 1 ≤ m) (h2 : m ≤ 1000) : RemF r m (r % m) := by
  have h := Nat.mod_lt r h1
  refine ⟨h, by rw [beq_eq_false_iff_ne]; omega, by omega, by omega, h1, ?_, ?_, IntWalk.i64_in _ (by omega), ?_, ?_, by omega⟩
  · rw [Int.tmod_eq_emod_of_nonneg (by omega)]; omega
  · omega
  · rw [Int.tmod_eq_emod_of_nonneg (by omega), Int.add_emod_right]; exact Int.emod_eq_of_lt (by omega) (by omega)
  · rw [Int.add_emod_right]; exact Int.emod_eq_of_lt (by omega) (by omega)
def ShC (w : World) (l : List (List UInt8)) (e : Ending) (w' : World) : Prop := ∃ g cap, e = .returned (.slice (some ⟨g, 0, none⟩) l.length cap) ∧ w.heap.size ≤ g ∧ RowsS w' (some ⟨g, 0, none⟩) l.length l ∧ Below w.heap.size w w'
theorem ShC.mk' {w w' : World} {l : List (List UInt8)} {g n cap : Nat} (hl : l.length = n) (h : RowsS w' (some ⟨g, 0, none⟩) n l) (hg : w.heap.size ≤ g) (hb : Below w.heap.size w w') : ShC w l (.returned (.slice (some ⟨g, 0, none⟩) n cap)) w' := by
  subst hl
  exact ⟨g, cap, rfl, hg, h, hb⟩
set_option maxHeartbeats 4000000 in
theorem shifted_any (A : Option Addr) (n c W r u : Nat) (xs : List (List UInt8)) (w : World) (hp : PatOk W n xs) (hA : RowsS w A n xs) (hr : r ≤ 1000) (hu : u ≤ 1000) :
    Calls Try.prog 61 #[.slice A n c, .int .i64 r, .int .i64 u] w (ShC w (shiftF xs W n (r % W) (u % n))) := by
  have hn := hA.bound
  have hH := hp.h1; have hH2 := hp.h2; have hW := hp.w1; have hW2 := hp.w2
  obtain ⟨b, off, he, hb, hc⟩ := hA.cell (by omega)
  subst he
  have hc0 := hc 0 (by omega)
  rw [Nat.add_zero] at hc0
  have HC := Lib.hid hc; clear hc
  have RW := Lib.hid hp.row
  have z0 : (⟨(nt xs 0).toArray⟩ : ByteArray).size = W := by rw [txt_size, RW.out 0 (by omega)]
  generalize (⟨(nt xs 0).toArray⟩ : ByteArray) = s0 at *
  have R1 := RemF.mk' r hW (by omega); have R2 := RemF.mk' u hH (by omega)
  obtain ⟨a, ha⟩ : ∃ a, r % W = a := ⟨_, rfl⟩
  obtain ⟨v, hv⟩ : ∃ v, u % n = v := ⟨_, rfl⟩
  rw [ha] at R1 ⊢
  rw [hv] at R2 ⊢
  clear ha hv hp hA
  subst z0
  obtain ⟨la, p0, p1, p2, p3, p4, p5, p6, p7, p8, p9⟩ := R1
  obtain ⟨lv, q0, q1, q2, q3, q4, q5, q6, q7, q8, q9⟩ := R2
  have hn0 : (0 : Int) < (n : Int) := by omega
  go_enter Try.func61, Try.ntmps61
  go_wp2_with fail
  go_quiet (fail)
  clear p4 p5 p6 p7 p8 p9 q4 q5 q6 q7 q8 q9
  obtain ⟨f, hf⟩ : ∃ f : Nat → List UInt8, (fun y => turn (nt xs ((y + n - v) % n)) s0.size a) = f := ⟨_, rfl⟩
  have hgoal : shiftF xs s0.size n a v = rowsF f n := by rw [← hf]; rfl
  have HG := Lib.hid hgoal
  have F := Lib.hid (fun y => (congrFun hf y).symm)
  clear hf hgoal
  have BQ : Below w.heap.size w ((w.drewN nq).alloc (.cells #[] 9)) := (below_drewN (Below.refl _ _) nq).alloc (Nat.le_refl _) _
  have HO0 := Lib.hid (OwnS.made' (e := 9) (w := w.drewN nq) (base := w.heap.size) (b := w.heap.size) (Nat.le_refl _) rfl)
  have hwd : IntKind.i64.wrap ((s0.size : Int) - (a : Int)) = ((s0.size - a : Nat) : Int) := by rw [IntWalk.i64_in _ (by omega)]; omega
  obtain ⟨d, hd⟩ : ∃ d, s0.size - a = d := ⟨_, rfl⟩
  rw [hd] at hwd
  have HD := Lib.hid hd
  have hdz : d ≤ s0.size := by omega
  have hdz2 : (d : Int) ≤ (s0.size : Int) := by omega
  clear hd
  go_wp2_with fail
  go_loopw [9, 34] (fun o i wr => ∃ k : Nat, k ≤ n ∧ i = .int .i64 k ∧ OwnS wr w.heap.size 9 o (txtV (rowsF f k)) ∧ Below w.heap.size w wr) (fun _ i _ => n - (intOf i).toNat)
  case atStart => exact ⟨0, Nat.zero_le _, rfl, HO0.out, BQ⟩
  case round =>
    obtain ⟨k, hk, rfl, hO, hbel⟩ := hrel
    have HO := Lib.hid hO; have HB := Lib.hid hbel
    obtain ⟨g, cap, hgv, hg⟩ : ∃ g cap, _ = Value.slice (some ⟨g, 0, none⟩) (rowsF f k).length cap ∧ w.heap.size ≤ g := by
      obtain ⟨g, cap, e, hg, _⟩ := hO
      rw [txtV_len] at e
      exact ⟨g, cap, e, hg⟩
    subst hgv
    have hz := hbel.size
    clear hO HO0 BQ
    rw [rowsF_len] at HO
    rw [rowsF_len]
    by_cases hlt : k < n
    · obtain ⟨q, hq⟩ : ∃ q, (k + n - v) % n = q := ⟨_, rfl⟩
      have hqn : q < n := by rw [← hq]; exact Nat.mod_lt _ (by omega)
      have hck := (hbel.cell (p := ⟨b, off + q, none⟩) hb).trans (HC.out q hqn)
      have k1 : ((k : Int) - (v : Int) + (n : Int)).tmod (n : Int) = (q : Int) := by
        rw [Int.tmod_eq_emod_of_nonneg (by omega), show (k : Int) - (v : Int) + (n : Int) = ((k + n - v : Nat) : Int) by omega, ← hq]; omega
      have k2 : ((k : Int) - (v : Int) + (n : Int)) % (n : Int) = (q : Int) := by
        rw [show (k : Int) - (v : Int) + (n : Int) = ((k + n - v : Nat) : Int) by omega, ← hq]; omega
      have z1 : (⟨(nt xs q).toArray⟩ : ByteArray).size = s0.size := by rw [txt_size, RW.out q hqn]
      have HT := turn_txt (nt xs q) (RW.out q hqn) (Nat.le_of_lt la)
      rw [HD.out] at HT
      have HF := F.out k
      rw [hq] at HF
      rw [← HF] at HT
      have HT := Lib.hid HT
      generalize (⟨(nt xs q).toArray⟩ : ByteArray) = t at *
      have HZ := Lib.hid z1
      have hdt : (d : Int) ≤ (t.size : Int) := by omega
      have e1 : (t.extract d t.size).size ≤ t.size := by rw [ByteArray.size_extract]; omega
      have e2 : (t.extract 0 d).size ≤ t.size := by rw [ByteArray.size_extract]; omega
      have K : ∀ W : World, (Op.stringOp .add (t.extract d t.size) (t.extract 0 d)).run Try.prog W = .ok (.string (t.extract d t.size ++ t.extract 0 d)) W := fun W => run_string_add_sum W _ _ (by omega)
      have HU := Lib.hid (show txtV (rowsF f (k + 1)) = txtV (rowsF f k) ++ [.string (t.extract d t.size ++ t.extract 0 d)] by
        rw [rowsF_next, txtV_snoc, ← HT.out, HZ.out])
      have HL := Lib.hid (show (txtV (rowsF f k)).length = k by rw [txtV_len, rowsF_len])
      have hzw : w.heap.size ≤ wr.heap.size := hz
      clear hbel hq HF z1 e1 e2
      go_wp2_with fail
      go_region_law ((first
        | (refine step_appC _ (by rfl) (.tmp 47) (.tmp 59) 33 (by rfl) w.heap.size 9 (.string ⟨#[]⟩) 16 Try.underlying33 info_txt rfl (.slice (some ⟨g, 0, none⟩) k cap) (txtV (rowsF f k)) (.inr (HO.out.below (by first | exact Below.refl _ _ | exact bel_drew (Below.refl _ _) | exact (bel_drew (Below.refl _ _)).alloc (by simp) _ | exact bel_drew ((Below.refl _ _).alloc (by simp) _) | exact (Below.refl _ _).alloc (by simp) _))) (by rfl) (.string (t.extract d t.size ++ t.extract 0 d)) wr.heap.size (by rfl) (by go_simp) rfl (by rw [HL.out]; omega) (by omega) (by first | exact hzw | (simp; omega)) ?_
           intro v5 w5 hO5 hB5 hs5
           have hB6 : Below w.heap.size wr w5 := Below.trans (Below.mono (B := wr.heap.size) (by first | exact Below.refl _ _ | exact bel_drew (Below.refl _ _) | exact (bel_drew (Below.refl _ _)).alloc (by simp) _ | exact bel_drew ((Below.refl _ _).alloc (by simp) _) | exact (Below.refl _ _).alloc (by simp) _) hzw) hB5
           have HO5 := Lib.hid hO5
           have HB6 := Lib.hid hB6
           obtain ⟨g5, cp5, e5, _, _⟩ := hO5
           generalize (txtV (rowsF f k) ++ [Value.string (t.extract d t.size ++ t.extract 0 d)]).length = n5 at e5
           subst e5
           clear hB5 hB6)))
      all_goals
        go_wp2_with fail
        go_roundw
        case rel => exact ⟨k + 1, by omega, by go_num, by rw [HU.out]; exact HO5.out, HB.out.trans HB6.out⟩
        case measure => simp [intOf]; omega
    · obtain rfl : n = k := by omega
      go_wp2_with fail
      go_ret
      obtain ⟨g', cap', e, hg', hR⟩ := own_rows HO.out (by rw [rowsF_len]; omega)
      rw [rowsF_len] at e hR
      simp only [Value.slice.injEq, Option.some.injEq, Addr.mk.injEq, and_true, true_and] at e
      obtain ⟨rfl, rfl⟩ := e
      exact ShC.mk' (by rw [HG.out, rowsF_len]) (by rw [HG.out]; exact hR) hg' hbel
end Go.Proofs.Ytoghgbbepjpelaa
