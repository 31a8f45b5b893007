/- Numbers out of texts: the program's ReadDecimal. -/
import Derived.Test.YtoghgbbepjpelaaGreatDoorN2
import Derived.Test.YtoghgbbepjpelaaGreatDoorFr
import Derived.Test.YtoghgbbepjpelaaGreatDoorN3
import Derived.Test.YtoghgbbepjpelaaGreatDoorSh2
namespace Go.Proofs.YtoghgbbepjpelaaGreatDoor
open Go.RowKit
set_option linter.unusedVariables false

/-- The library's two errors. -/
def Errs (w : World) : Prop := (∃ tp p, w.var? Tryz.prog "strconv.ErrSyntax" = some #[.iface tp p]) ∧ ∃ tp p, w.var? Tryz.prog "strconv.ErrRange" = some #[.iface tp p]
theorem es_glob : Tryz.prog.globalNamed "strconv.ErrSyntax" = some 2 := by kernel_rfl
theorem er_glob : Tryz.prog.globalNamed "strconv.ErrRange" = some 3 := by kernel_rfl
theorem var_below {w w' : World} {n : String} {g : Nat} {v : Array Value} (hg : Tryz.prog.globalNamed n = some g) (h : w.var? Tryz.prog n = some v) (hb : Below w.heap.size w w') : w'.var? Tryz.prog n = some v := by
  have hl : g < w.heap.size := by
    rcases Nat.lt_or_ge g w.heap.size with h1 | h1
    · exact h1
    · simp [World.var?, hg, Array.getElem?_eq_none h1] at h
  exact var?_below hb hg hl h
theorem Errs.below {w w' : World} (h : Errs w) (hb : Below w.heap.size w w') : Errs w' := by
  obtain ⟨⟨t1, p1, h1⟩, t2, p2, h2⟩ := h
  exact ⟨⟨t1, p1, var_below es_glob h1 hb⟩, t2, p2, var_below er_glob h2 hb⟩
theorem NumC.rd {l : List UInt8} {w w' : World} (h : rdO l = none) (hb : Below w.heap.size w w') : NumC l w (.returned (.tuple #[.int .i64 0, .bool false])) w' := NumC.none_ (by rw [← rd_num]; exact h) hb
theorem rdO_long {l : List UInt8} (h : 19 < l.length ∨ 18 < (bodyL l).length) : rdO l = none := by rw [rdO, if_pos h]

set_option maxHeartbeats 4000000 in
theorem readDecimal_any (s : ByteArray) (w : World) (hs : s.size ≤ 1048576) (hT : Tab w) (hE : Errs w) :
    Calls Tryz.prog 40 #[.string s] w (NumC s.data.toList w) := by
  have HT := Lib.hid hT; have HE := Lib.hid hE
  have HS := Lib.hid (Lib.size_eq s)
  clear hT hE
  by_cases h19 : (19 : Int) < (s.size : Int)
  · have B := Lib.hid (rdO_long (l := s.data.toList) (.inl (by rw [← HS.out]; omega)))
    go_enter Tryz.func40, Tryz.ntmps40
    go_wp2_with fail
    go_ret2
    exact NumC.rd B.out (Below.refl _ _)
  · obtain ⟨T, hT⟩ : ∃ T : ByteArray, ⟨(Lib.trimPrefix s.data.toList [45]).toArray⟩ = T := ⟨_, rfl⟩
    have htrim := Tryz.strings_TrimPrefix s ⟨#[45]⟩ w
    have hTb : T.size = (bodyL s.data.toList).length := by rw [← hT, ← body_trim]; show (List.toArray _).size = _; simp
    rw [show (ByteArray.mk #[45]).data.toList = [45] from rfl, hT] at htrim
    have HTB := Lib.hid hTb
    clear hT hTb
    by_cases h18 : (18 : Int) < (T.size : Int)
    · have B := Lib.hid (rdO_long (l := s.data.toList) (.inr (by rw [← HTB.out]; omega)))
      go_enter Tryz.func40, Tryz.ntmps40
      go_wp2_with fail
      refine htrim.mono ?_; rintro e w1 ⟨rfl, rfl⟩
      go_wp2_with fail
      go_ret2
      exact NumC.rd B.out (Below.refl _ _)
    · have NL := Lib.hid (show ¬ (19 < s.data.toList.length ∨ 18 < (bodyL s.data.toList).length) by rw [← HTB.out, ← HS.out]; omega)
      rcases hp : Lib.parseIntB 64 s.data.toList with v | _ | _
      · have hbd := Lib.parseIntB_bounds hp
        have hv0 : -9223372036854775808 ≤ v := hbd.1
        have hv1 : v ≤ 9223372036854775807 := by have := hbd.2; omega
        have RO := Lib.hid (rdO_ok NL.out hp)
        have hcon := fun W => (Tryz.strconv_ParseInt_10_at64_ok s (by omega) v hp W).mono (R' := fun e w' => e = .returned (.tuple #[.int .i64 v, .nilIface]) ∧ Below W.heap.size W w') fun e w' ⟨he, hw⟩ => ⟨he, by
          rcases hw with rfl | ⟨t, rfl⟩
          · exact Below.refl _ _
          · exact Lib.bytesWorld_below _ _ _⟩
        clear hbd hp
        by_cases hi : Lib.itoa v = s.data.toList
        · have Y := Lib.hid (show numO s.data.toList = some v by rw [← rd_num, RO.out, if_pos hi])
          have E := Lib.hid (show decS v = s from by rw [decS, hi])
          clear hi
          go_enter Tryz.func40, Tryz.ntmps40
          go_wp2_with fail
          refine htrim.mono ?_; rintro e w1 ⟨rfl, rfl⟩
          go_wp2_with fail
          refine (hcon _).mono ?_; rintro e w1 ⟨rfl, hb1⟩
          go_wp2_with fail
          refine (implDecimal_any v _ hv0 hv1 (HT.out.below hb1)).mono ?_; rw [E.out]; rintro e w2 ⟨rfl, hb2⟩
          go_wp2_with fail
          go_ret2
          exact NumC.some_ Y.out (bel_tr hb1 hb2)
        · have Y := Lib.hid (show rdO s.data.toList = none by rw [RO.out, if_neg hi])
          have E : ¬ decS v = s := fun h => hi (by rw [← h, decS])
          clear hi
          obtain ⟨D9, hD9⟩ : ∃ D9, decS v = D9 := ⟨_, rfl⟩
          have hd := fun W hW => implDecimal_any v W hv0 hv1 hW
          rw [hD9] at hd E
          have hq : (D9.toList == s.toList) = false := str_ne E
          clear hD9 E
          go_enter Tryz.func40, Tryz.ntmps40
          go_wp2_with fail
          refine htrim.mono ?_; rintro e w1 ⟨rfl, rfl⟩
          go_wp2_with fail
          refine (hcon _).mono ?_; rintro e w1 ⟨rfl, hb1⟩
          go_wp2_with fail
          refine (hd _ (HT.out.below hb1)).mono ?_; rintro e w2 ⟨rfl, hb2⟩
          go_wp2_with fail
          go_ret2
          exact NumC.rd Y.out (bel_tr hb1 hb2)
      · have Y := Lib.hid (rdO_err (l := s.data.toList) (fun v h => by rw [hp] at h; cases h))
        obtain ⟨⟨tp, p, hv⟩, _⟩ := HE.out
        have hcon := Any.strconv_ParseInt_10_at64_syntax_var Tryz.laysC174 s (by omega) hp tp p w hv
        clear hp hv
        go_enter Tryz.func40, Tryz.ntmps40
        go_wp2_with fail
        refine htrim.mono ?_; rintro e w1 ⟨rfl, rfl⟩
        go_wp2_with fail
        refine hcon.mono ?_; rintro e w1 ⟨M, rfl, _, _, hb1⟩
        go_wp2_with fail
        go_ret2
        exact NumC.rd Y.out hb1
      · have Y := Lib.hid (rdO_err (l := s.data.toList) (fun v h => by rw [hp] at h; cases h))
        obtain ⟨_, tp, p, hv⟩ := HE.out
        have hcon := Any.strconv_ParseInt_10_at64_range_var Tryz.laysC174 s (by omega) hp tp p w hv
        clear hp hv
        go_enter Tryz.func40, Tryz.ntmps40
        go_wp2_with fail
        refine htrim.mono ?_; rintro e w1 ⟨rfl, rfl⟩
        go_wp2_with fail
        refine hcon.mono ?_; rintro e w1 ⟨M, rfl, _, _, hb1⟩
        go_wp2_with fail
        go_ret2
        exact NumC.rd Y.out hb1
end Go.Proofs.YtoghgbbepjpelaaGreatDoor
