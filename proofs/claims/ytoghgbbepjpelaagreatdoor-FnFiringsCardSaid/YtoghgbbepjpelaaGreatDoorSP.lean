/- The contract of l01Split: the parts of a text between bytes. -/
import Derived.Test.YtoghgbbepjpelaaGreatDoorRows
import Derived.Test.YtoghgbbepjpelaaGreatDoorAp
import Derived.Test.YtoghgbbepjpelaaGreatDoorPS
import Derived.Test.YtoghgbbepjpelaaGreatDoorN3
namespace Go.Proofs.YtoghgbbepjpelaaGreatDoor
open Go.RowKit
set_option linter.unusedVariables false

theorem info_str : (Tryz.prog.info? 9).map (fun i => (i.zero, i.size, i.bytes)) = some (some (.string ⟨#[]⟩), 1, 16) := by kernel_rfl
def strVs (ps : List (List UInt8)) : List Value := ps.map fun p => .string ⟨p.toArray⟩
theorem strVs_len (ps : List (List UInt8)) : (strVs ps).length = ps.length := by simp [strVs]
theorem strVs_snoc (ps : List (List UInt8)) (p : List UInt8) : strVs (ps ++ [p]) = strVs ps ++ [.string ⟨p.toArray⟩] := by simp [strVs]
/-- Texts that lie in a block. -/
def StrsAt (w : World) (g : Nat) (ps : List (List UInt8)) : Prop := ∀ j p, ps[j]? = some p → w.cell? ⟨g, j, none⟩ = some (.string ⟨p.toArray⟩)
theorem StrsAt.below {w w' : World} {g : Nat} {ps : List (List UInt8)} (h : StrsAt w g ps) (hg : g < w.heap.size) (hb : Below w.heap.size w w') : StrsAt w' g ps := fun j p hp => (hb.cell (p := ⟨g, j, none⟩) hg).trans (h j p hp)
theorem own_strs {w : World} {base : Nat} {e : TypeId} {v : Value} {ps : List (List UInt8)} (h : OwnS w base e v (strVs ps)) : ∃ g cap, v = .slice (some ⟨g, 0, none⟩) ps.length cap ∧ StrsAt w g ps ∧ g < w.heap.size ∧ base ≤ g := by
  obtain ⟨g, cap, rfl, hg, ho⟩ := h
  refine ⟨g, cap, by rw [strVs_len], fun j p hp => ?_, (ho.lt g (by simp [Value.ownBlock])).2, hg⟩
  have hl := (List.getElem?_eq_some_iff.1 hp).1
  rw [ho.cellAt j (by rw [strVs_len]; omega)]
  simp [strVs, hp]
def Split (l : List UInt8) (b : UInt8) (w : World) (e : Ending) (w' : World) : Prop :=
  ∃ g cap, e = .returned (.slice (some ⟨g, 0, none⟩) (splitL b l).length cap) ∧ StrsAt w' g (splitL b l) ∧ g < w'.heap.size ∧ Below w.heap.size w w'
theorem extract_mk (s : ByteArray) (a b : Nat) : s.extract a b = ⟨((s.data.toList.take b).drop a).toArray⟩ := by
  refine Go.WideShapes.bytes_inj ?_
  rw [Lib.extract_data]
  show _ = ((s.data.toList.take b).drop a).toArray.toList
  rw [List.toList_toArray, List.drop_take]
theorem split_start (b : UInt8) (l : List UInt8) : splitL b l = [] ++ splA b ((l.take 0).drop 0) (l.drop 0) := by simp [splitL]
theorem split_yes {b : UInt8} {l : List UInt8} {ps : List (List UInt8)} {f k : Nat} (h : splitL b l = ps ++ splA b ((l.take k).drop f) (l.drop k)) (hk : k < l.length) (hb : l[k] = b) :
    splitL b l = (ps ++ [(l.take k).drop f]) ++ splA b ((l.take (k + 1)).drop (k + 1)) (l.drop (k + 1)) := by
  rw [h, List.drop_eq_getElem_cons hk, splA, if_pos hb, List.append_assoc]
  congr 1
  have e : (l.take (k + 1)).drop (k + 1) = [] := by rw [List.drop_eq_nil_iff, List.length_take]; omega
  rw [e]; rfl
theorem split_no {b : UInt8} {l : List UInt8} {ps : List (List UInt8)} {f k : Nat} (h : splitL b l = ps ++ splA b ((l.take k).drop f) (l.drop k)) (hf : f ≤ k) (hk : k < l.length) (hb : l[k] ≠ b) :
    splitL b l = ps ++ splA b ((l.take (k + 1)).drop f) (l.drop (k + 1)) := by
  rw [h, List.drop_eq_getElem_cons hk, splA, if_neg hb]
  congr 2
  rw [List.take_succ_eq_append_getElem hk, List.drop_append_of_le_length (by rw [List.length_take]; omega)]
theorem split_end {b : UInt8} {l : List UInt8} {ps : List (List UInt8)} {f k : Nat} (h : splitL b l = ps ++ splA b ((l.take k).drop f) (l.drop k)) (hk : k = l.length) : splitL b l = ps ++ [(l.take k).drop f] := by
  rw [h, show l.drop k = [] by rw [List.drop_eq_nil_iff]; omega]; rfl
set_option maxHeartbeats 4000000 in
theorem l01Split_any (s : ByteArray) (b : UInt8) (w : World) (hs : s.size ≤ 1048576) :
    Calls Tryz.prog 45 #[.string s, .int .u8 (b.toNat : Int)] w (Split s.data.toList b w) := by
  have SL := Lib.hid (Lib.size_eq s)
  go_enter Tryz.func45, Tryz.ntmps45
  go_wp2_with fail
  go_loopw [5, 6, 7] (fun v t6 t7 wr => ∃ (k f : Nat) (ps : List (List UInt8)), f ≤ k ∧ k ≤ s.size ∧ t6 = .int .i64 (f : Int) ∧ t7 = .int .i64 (k : Int) ∧ OwnS wr w.heap.size 9 v (strVs ps) ∧ splitL b s.data.toList = ps ++ splA b ((s.data.toList.take k).drop f) (s.data.toList.drop k) ∧ ps.length ≤ k ∧ Below w.heap.size w wr) (fun _ _ t _ => s.size - (intOf t).toNat)
  case atStart => exact ⟨0, 0, [], Nat.le_refl _, Nat.zero_le _, rfl, rfl, OwnS.made' (Nat.le_refl _) rfl, split_start _ _, Nat.le_refl _, by go_grown⟩
  case round =>
    obtain ⟨k, f, ps, hf, hk, rfl, rfl, hO, hsp, hpl, hB⟩ := hrel
    have HO := Lib.hid hO; have SP := Lib.hid hsp; have HB := Lib.hid hB
    have hz := hB.size
    have HL := Lib.hid (show (strVs ps).length ≤ 1048576 by rw [strVs_len]; omega)
    clear hO hsp hB
    by_cases hkt : k < s.size
    · have HG := Lib.hid (get_list hkt)
      by_cases hc : s[k] = b
      · have h1 : ((s[k].toNat : Int) == (b.toNat : Int)) = true := by rw [hc]; simp
        have E := Lib.hid (extract_mk s f k)
        have S2 := Lib.hid (split_yes SP.out (by rw [← SL.out]; exact hkt) (by have := HG.out; rw [List.getElem?_eq_getElem (by rw [← SL.out]; exact hkt)] at this; rw [Option.some.inj this]; exact hc))
        clear hc
        go_wp2_with (at_builtin; refine wpList_app1 _ rfl (.tmp 20) (.tmp 25) 60 rfl (w.heap.size) 9 (.string ⟨#[]⟩) 16 Tryz.underlying60 info_str rfl _ _ (HO.out) rfl _ _ rfl (by simp) rfl HL.out (by omega) hz ?_; intro v2 w2 hO2 hk2 hs2)
        have hB2 := hk2 (Nat.le_refl _) HB.out
        go_roundw
        case rel => exact ⟨k + 1, k + 1, _, Nat.le_refl _, by omega, by go_num, by go_num, by rw [strVs_snoc, ← E.out]; exact hO2, S2.out, by simp; omega, hB2⟩
        case measure => simp [intOf]; omega
      · have h1 : ((s[k].toNat : Int) == (b.toNat : Int)) = false := by
          rw [beq_eq_false_iff_ne]
          exact fun h => hc (UInt8.toNat_inj.1 (by omega))
        have S2 := Lib.hid (split_no SP.out hf (by rw [← SL.out]; exact hkt) (by have := HG.out; rw [List.getElem?_eq_getElem (by rw [← SL.out]; exact hkt)] at this; rw [Option.some.inj this]; exact hc))
        clear hc
        go_wp2_with fail
        go_roundw
        case rel => exact ⟨k + 1, f, ps, by omega, by omega, rfl, by go_num, HO.out, S2.out, by omega, HB.out⟩
        case measure => simp [intOf]; omega
    · obtain rfl : k = s.size := by omega
      have E := Lib.hid (extract_mk s f s.size)
      have S2 := Lib.hid (split_end SP.out SL.out)
      go_wp2_with (at_builtin; refine wpList_app1 _ rfl (.tmp 29) (.tmp 33) 60 rfl (w.heap.size) 9 (.string ⟨#[]⟩) 16 Tryz.underlying60 info_str rfl _ _ (HO.out) rfl _ _ rfl (by simp) rfl HL.out (by omega) hz ?_; intro v2 w2 hO2 hk2 hs2)
      have hB2 := hk2 (Nat.le_refl _) HB.out
      have hO3 : OwnS w2 w.heap.size 9 v2 (strVs (splitL b s.data.toList)) := by rw [S2.out, strVs_snoc, ← E.out]; exact hO2
      obtain ⟨g, cap, rfl, hst, hgl, _⟩ := own_strs hO3
      go_ret
      exact ⟨g, cap, rfl, hst, hgl, hB2⟩
end Go.Proofs.YtoghgbbepjpelaaGreatDoor
