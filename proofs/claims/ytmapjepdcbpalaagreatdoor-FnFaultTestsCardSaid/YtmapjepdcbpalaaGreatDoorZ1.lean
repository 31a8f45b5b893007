import Derived.Test.YtmapjepdcbpalaaGreatDoorCT
import Derived.Test.YtmapjepdcbpalaaGreatDoorN3
import Derived.Test.YtmapjepdcbpalaaGreatDoorPS
import Derived.Lib.SlicesS
import Derived.Test.YtmapjepdcbpalaaGreatDoorN2
import Derived.Test.YtmapjepdcbpalaaGreatDoorFr
import Derived.Test.YtmapjepdcbpalaaGreatDoorSh2
import Derived.Test.YtmapjepdcbpalaaGreatDoorBE
import Derived.Test.YtmapjepdcbpalaaGreatDoorCQ4
import Derived.Test.YtmapjepdcbpalaaGreatDoorB3
import Derived.Test.YtmapjepdcbpalaaGreatDoorN1
import Derived.Test.YtmapjepdcbpalaaGreatDoorBB
import Derived.Test.YtmapjepdcbpalaaGreatDoorD2
import Derived.LaidMore
import Derived.OpenShut
import Derived.OpenVars
import Derived.Stop.LaidErr
import Derived.HandedShaped
import Derived.Test.YtmapjepdcbpalaaGreatDoorRows
import Derived.Test.YtmapjepdcbpalaaGreatDoorSr
/- Causes read from texts: the plain law. No function is walked here. -/
namespace Go.Proofs.YtmapjepdcbpalaaGreatDoor
open Go.RowKit
set_option linter.unusedVariables false

theorem index_hit1 (b : UInt8) : ∀ (p r : List UInt8), b ∉ p → Lib.index (p ++ b :: r) [b] = (p.length : Int)
  | [], r, _ => by simp [Lib.index, List.isPrefixOf]
  | c :: p, r, h => by
    have hne : b ≠ c := fun e => h (by simp [e])
    have ih := index_hit1 b p r (fun hm => h (List.mem_cons_of_mem _ hm))
    have h1 : ((p.length : Int) == -1) = false := by rw [beq_eq_false_iff_ne]; omega
    simp [Lib.index, List.isPrefixOf, hne, ih, h1]
theorem index_none1 (b : UInt8) : ∀ (l : List UInt8), b ∉ l → Lib.index l [b] = -1
  | [], _ => by simp [Lib.index]
  | c :: l, h => by
    have hne : b ≠ c := fun e => h (by simp [e])
    have ih := index_none1 b l (fun hm => h (List.mem_cons_of_mem _ hm))
    simp [Lib.index, List.isPrefixOf, hne, ih]
theorem cut_hit {b : UInt8} {p r : List UInt8} (h : b ∉ p) : Lib.cut (p ++ b :: r) [b] = (p, r, true) := by
  rw [Lib.cut, index_hit1 b p r h, if_pos (by omega)]
  simp [List.drop_append]
theorem cut_none {b : UInt8} {l : List UInt8} (h : b ∉ l) : Lib.cut l [b] = (l, [], false) := by
  rw [Lib.cut, index_none1 b l h, if_neg (by omega)]

def wordL (k : Int) : List UInt8 := (wordS k).data.toList
theorem causeS_list {c : Cause} (h : causeB c = true) : (causeS c).data.toList = wordL c.Kind ++ 32 :: Lib.itoa c.Number := by
  rw [causeS, if_pos h]
  simp [ByteArray.data_append, wordL, decS]
theorem causeS_none {c : Cause} (h : causeB c = false) : (causeS c).data.toList = [] := by rw [causeS, h]; rfl
theorem no32_word (k : Int) : (32 : UInt8) ∉ wordL k := by
  unfold wordL wordS
  split
  · decide
  · split <;> decide
theorem no32_num {n : Int} (h : 0 ≤ n) : (32 : UInt8) ∉ Lib.itoa n := by
  obtain ⟨u, rfl⟩ := Int.eq_ofNat_of_zero_le h
  rw [Lib.itoa_nonneg]
  intro hm
  have := (dec_digits u 32 hm).1
  exact absurd this (by decide)
theorem word_ne {j k : Int} (hj : j = 1 ∨ j = 2 ∨ j = 3) (hk : k = 1 ∨ k = 2 ∨ k = 3) (h : wordL j = wordL k) : j = k := by
  rcases hj with rfl | rfl | rfl <;> rcases hk with rfl | rfl | rfl <;> first | rfl | (exact absurd h (by decide))
theorem numO_cause {n : Int} (h1 : 1 ≤ n) (h2 : n ≤ 20) : numO (Lib.itoa n) = some n := numO_iff.2 ⟨rfl, Nat.lt_of_lt_of_le (show n.natAbs < 21 by omega) (by decide)⟩
/-- The cause with a text. -/
def IsRead (l : List UInt8) (c : Cause) : Prop := causeB c = true ∧ (causeS c).data.toList = l
theorem IsRead.split {l : List UInt8} {c : Cause} (h : IsRead l c) : splitL 32 l = [wordL c.Kind, Lib.itoa c.Number] := by
  obtain ⟨_, h1, _⟩ := causeB_is h.1
  rw [← h.2, causeS_list h.1]
  exact split_two.2 ⟨rfl, no32_word _, no32_num (by omega)⟩
theorem IsRead.cut {l : List UInt8} {c : Cause} (h : IsRead l c) : Lib.cut l [32] = (wordL c.Kind, Lib.itoa c.Number, true) := by
  rw [← h.2, causeS_list h.1]
  exact cut_hit (no32_word _)
theorem IsRead.uniq {l : List UInt8} {c d : Cause} (h : IsRead l c) (k : IsRead l d) : c = d := by
  have e := h.split.symm.trans k.split
  simp only [List.cons.injEq, and_true] at e
  obtain ⟨hk, h1, h2⟩ := causeB_is h.1
  obtain ⟨kk, k1, k2⟩ := causeB_is k.1
  have e1 := word_ne hk kk e.1
  have e2 : c.Number = d.Number := by
    have := numO_cause h1 h2
    rw [e.2, numO_cause k1 k2] at this
    exact (Option.some.inj this).symm
  cases c; cases d; simp_all
theorem IsRead.of_split {l p q : List UInt8} {n k : Int} (h : splitL 32 l = [p, q]) (hn : numO q = some n) (hp : p = wordL k) (hc : causeB ⟨k, n⟩ = true) : IsRead l ⟨k, n⟩ := by
  refine ⟨hc, ?_⟩
  rw [causeS_list hc, (split_two.1 h).1, hp, (numO_iff.1 hn).1]
open Classical in
/-- What both answer. -/
noncomputable def readC (l : List UInt8) : Option Cause := if h : ∃ c, IsRead l c then some h.choose else none
theorem readC_some {l : List UInt8} {c : Cause} (h : IsRead l c) : readC l = some c := by
  have hx : ∃ c, IsRead l c := ⟨c, h⟩
  rw [readC, dif_pos hx, hx.choose_spec.uniq h]
theorem readC_none {l : List UInt8} (h : ∀ c, ¬ IsRead l c) : readC l = none := by
  rw [readC, dif_neg (fun ⟨c, hc⟩ => h c hc)]
noncomputable def readV (l : List UInt8) : Value := match readC l with
  | some c => .tuple #[.agg #[.int .i64 c.Kind, .int .i64 c.Number], .bool true]
  | none => .tuple #[.agg #[.int .i64 0, .int .i64 0], .bool false]
theorem readV_some {l : List UInt8} {c : Cause} (h : IsRead l c) : readV l = .tuple #[.agg #[.int .i64 c.Kind, .int .i64 c.Number], .bool true] := by rw [readV, readC_some h]
theorem readV_none {l : List UInt8} (h : ∀ c, ¬ IsRead l c) : readV l = .tuple #[.agg #[.int .i64 0, .int .i64 0], .bool false] := by rw [readV, readC_none h]
theorem not_two {l : List UInt8} (h : (splitL 32 l).length ≠ 2) : ∀ c, ¬ IsRead l c := fun c hc => h (by rw [hc.split]; rfl)
theorem not_num {l p q : List UInt8} (h : splitL 32 l = [p, q]) (hn : numO q = none) : ∀ c, ¬ IsRead l c := fun c hc => by
  have e := h.symm.trans hc.split
  simp only [List.cons.injEq, and_true] at e
  obtain ⟨_, h1, h2⟩ := causeB_is hc.1
  rw [e.2, numO_cause h1 h2] at hn; cases hn
theorem not_word {l p q : List UInt8} {n : Int} (h : splitL 32 l = [p, q]) (hn : numO q = some n) (hw : ∀ j : Nat, j < 3 → ¬ (p = wordL ((j : Int) + 1) ∧ causeB ⟨(j : Int) + 1, n⟩ = true)) : ∀ c, ¬ IsRead l c := fun c hc => by
  have e := h.symm.trans hc.split
  simp only [List.cons.injEq, and_true] at e
  obtain ⟨hk, h1, h2⟩ := causeB_is hc.1
  rw [e.2, numO_cause h1 h2] at hn
  obtain rfl := Option.some.inj hn
  have h3 : (((c.Kind - 1).toNat : Nat) : Int) + 1 = c.Kind := by omega
  exact hw (c.Kind - 1).toNat (by omega) (by rw [h3]; exact ⟨e.1, hc.1⟩)
/-- The program's. -/
theorem impl_none {l : List UInt8} (hn : numO (Lib.cut l [32]).2.1 = none) : ∀ c, ¬ IsRead l c := fun c hc => by
  rw [hc.cut] at hn
  obtain ⟨_, h1, h2⟩ := causeB_is hc.1
  rw [numO_cause h1 h2] at hn; cases hn
theorem impl_yes {l : List UInt8} {c : Cause} {n : Int} (hn : numO (Lib.cut l [32]).2.1 = some n) (h : (causeS c).data.toList = l) : IsRead l c := by
  refine ⟨?_, h⟩
  rcases Bool.eq_false_or_eq_true (causeB c) with g | g
  · exact g
  · rw [causeS_none g] at h
    subst h
    have e : Lib.cut [] [32] = (([], [], false) : List UInt8 × List UInt8 × Bool) := cut_none (by simp)
    rw [e] at hn
    have : numO [] = none := by decide
    rw [this] at hn; cases hn
theorem idx_word {k : Int} (hk : k = 1 ∨ k = 2 ∨ k = 3) : Lib.idxOfS [⟨#[]⟩, wordS 1, wordS 2, wordS 3] ⟨(wordL k).toArray⟩ = k := by
  rcases hk with rfl | rfl | rfl <;> decide
theorem impl_no {l : List UInt8} {n : Int} (hn : numO (Lib.cut l [32]).2.1 = some n) (h : (causeS ⟨Lib.idxOfS [⟨#[]⟩, wordS 1, wordS 2, wordS 3] ⟨(Lib.cut l [32]).1.toArray⟩, n⟩).data.toList ≠ l) : ∀ c, ¬ IsRead l c := fun c hc => by
  obtain ⟨hk, h1, h2⟩ := causeB_is hc.1
  rw [hc.cut] at hn h
  rw [numO_cause h1 h2] at hn
  obtain rfl := Option.some.inj hn
  rw [idx_word hk] at h
  exact h hc.2
end Go.Proofs.YtmapjepdcbpalaaGreatDoor

/- Numbers out of texts: the program's ReadDecimal. -/
namespace Go.Proofs.YtmapjepdcbpalaaGreatDoor
open Go.RowKit
set_option linter.unusedVariables false

/-- The library's two errors. -/
def Errs (w : World) : Prop := (∃ tp p, w.var? Tryz.prog "strconv.ErrSyntax" = some #[.iface tp p]) ∧ ∃ tp p, w.var? Tryz.prog "strconv.ErrRange" = some #[.iface tp p]
theorem es_glob : Tryz.prog.globalNamed "strconv.ErrSyntax" = some 2 := by kernel_rfl
theorem er_glob : Tryz.prog.globalNamed "strconv.ErrRange" = some 3 := by kernel_rfl
theorem var_below {w w' : World} {n : String} {g : Nat} {v : Array Value} (hg : Tryz.prog.globalNamed n = some g) (h : w.var? Tryz.prog n = some v) (hb : Below w.heap.size w w') : w'.var? Tryz.prog n = some v := by
  have hl : g < w.heap.size := by
    rcases Nat.lt_or_ge g w.heap.size with h1 | h1
    · exact h1
    · simp [World.var?, hg, Array.getElem?_eq_none h1] at h
  exact var?_below hb hg hl h
theorem Errs.below {w w' : World} (h : Errs w) (hb : Below w.heap.size w w') : Errs w' := by
  obtain ⟨⟨t1, p1, h1⟩, t2, p2, h2⟩ := h
  exact ⟨⟨t1, p1, var_below es_glob h1 hb⟩, t2, p2, var_below er_glob h2 hb⟩
theorem NumC.rd {l : List UInt8} {w w' : World} (h : rdO l = none) (hb : Below w.heap.size w w') : NumC l w (.returned (.tuple #[.int .i64 0, .bool false])) w' := NumC.none_ (by rw [← rd_num]; exact h) hb
theorem rdO_long {l : List UInt8} (h : 19 < l.length ∨ 18 < (bodyL l).length) : rdO l = none := by rw [rdO, if_pos h]

set_option maxHeartbeats 4000000 in
theorem readDecimal_any (s : ByteArray) (w : World) (hs : s.size ≤ 1048576) (hT : Tab w) (hE : Errs w) :
    Calls Tryz.prog 21 #[.string s] w (NumC s.data.toList w) := by
  have HT := Lib.hid hT; have HE := Lib.hid hE
  have HS := Lib.hid (Lib.size_eq s)
  clear hT hE
  by_cases h19 : (19 : Int) < (s.size : Int)
  · have B := Lib.hid (rdO_long (l := s.data.toList) (.inl (by rw [← HS.out]; omega)))
    go_enter Tryz.func21, Tryz.ntmps21
    go_wp2_with fail
    go_ret2
    exact NumC.rd B.out (Below.refl _ _)
  · obtain ⟨T, hT⟩ : ∃ T : ByteArray, ⟨(Lib.trimPrefix s.data.toList [45]).toArray⟩ = T := ⟨_, rfl⟩
    have htrim := Tryz.strings_TrimPrefix s ⟨#[45]⟩ w
    have hTb : T.size = (bodyL s.data.toList).length := by rw [← hT, ← body_trim]; show (List.toArray _).size = _; simp
    rw [show (ByteArray.mk #[45]).data.toList = [45] from rfl, hT] at htrim
    have HTB := Lib.hid hTb
    clear hT hTb
    by_cases h18 : (18 : Int) < (T.size : Int)
    · have B := Lib.hid (rdO_long (l := s.data.toList) (.inr (by rw [← HTB.out]; omega)))
      go_enter Tryz.func21, Tryz.ntmps21
      go_wp2_with fail
      refine htrim.mono ?_; rintro e w1 ⟨rfl, rfl⟩
      go_wp2_with fail
      go_ret2
      exact NumC.rd B.out (Below.refl _ _)
    · have NL := Lib.hid (show ¬ (19 < s.data.toList.length ∨ 18 < (bodyL s.data.toList).length) by rw [← HTB.out, ← HS.out]; omega)
      rcases hp : Lib.parseIntB 64 s.data.toList with v | _ | _
      · have hbd := Lib.parseIntB_bounds hp
        have hv0 : -9223372036854775808 ≤ v := hbd.1
        have hv1 : v ≤ 9223372036854775807 := by have := hbd.2; omega
        have RO := Lib.hid (rdO_ok NL.out hp)
        have hcon := fun W => (Tryz.strconv_ParseInt_10_at64_ok s (by omega) v hp W).mono (R' := fun e w' => e = .returned (.tuple #[.int .i64 v, .nilIface]) ∧ Below W.heap.size W w') fun e w' ⟨he, hw⟩ => ⟨he, by
          rcases hw with rfl | ⟨t, rfl⟩
          · exact Below.refl _ _
          · exact Lib.bytesWorld_below _ _ _⟩
        clear hbd hp
        by_cases hi : Lib.itoa v = s.data.toList
        · have Y := Lib.hid (show numO s.data.toList = some v by rw [← rd_num, RO.out, if_pos hi])
          have E := Lib.hid (show decS v = s from by rw [decS, hi])
          clear hi
          go_enter Tryz.func21, Tryz.ntmps21
          go_wp2_with fail
          refine htrim.mono ?_; rintro e w1 ⟨rfl, rfl⟩
          go_wp2_with fail
          refine (hcon _).mono ?_; rintro e w1 ⟨rfl, hb1⟩
          go_wp2_with fail
          refine (implDecimal_any v _ hv0 hv1 (HT.out.below hb1)).mono ?_; rw [E.out]; rintro e w2 ⟨rfl, hb2⟩
          go_wp2_with fail
          go_ret2
          exact NumC.some_ Y.out (bel_tr hb1 hb2)
        · have Y := Lib.hid (show rdO s.data.toList = none by rw [RO.out, if_neg hi])
          have E : ¬ decS v = s := fun h => hi (by rw [← h, decS])
          clear hi
          obtain ⟨D9, hD9⟩ : ∃ D9, decS v = D9 := ⟨_, rfl⟩
          have hd := fun W hW => implDecimal_any v W hv0 hv1 hW
          rw [hD9] at hd E
          have hq : (D9.toList == s.toList) = false := str_ne E
          clear hD9 E
          go_enter Tryz.func21, Tryz.ntmps21
          go_wp2_with fail
          refine htrim.mono ?_; rintro e w1 ⟨rfl, rfl⟩
          go_wp2_with fail
          refine (hcon _).mono ?_; rintro e w1 ⟨rfl, hb1⟩
          go_wp2_with fail
          refine (hd _ (HT.out.below hb1)).mono ?_; rintro e w2 ⟨rfl, hb2⟩
          go_wp2_with fail
          go_ret2
          exact NumC.rd Y.out (bel_tr hb1 hb2)
      · have Y := Lib.hid (rdO_err (l := s.data.toList) (fun v h => by rw [hp] at h; cases h))
        obtain ⟨⟨tp, p, hv⟩, _⟩ := HE.out
        have hcon := Any.strconv_ParseInt_10_at64_syntax_var Tryz.laysC174 s (by omega) hp tp p w hv
        clear hp hv
        go_enter Tryz.func21, Tryz.ntmps21
        go_wp2_with fail
        refine htrim.mono ?_; rintro e w1 ⟨rfl, rfl⟩
        go_wp2_with fail
        refine hcon.mono ?_; rintro e w1 ⟨M, rfl, _, _, hb1⟩
        go_wp2_with fail
        go_ret2
        exact NumC.rd Y.out hb1
      · have Y := Lib.hid (rdO_err (l := s.data.toList) (fun v h => by rw [hp] at h; cases h))
        obtain ⟨_, tp, p, hv⟩ := HE.out
        have hcon := Any.strconv_ParseInt_10_at64_range_var Tryz.laysC174 s (by omega) hp tp p w hv
        clear hp hv
        go_enter Tryz.func21, Tryz.ntmps21
        go_wp2_with fail
        refine htrim.mono ?_; rintro e w1 ⟨rfl, rfl⟩
        go_wp2_with fail
        refine hcon.mono ?_; rintro e w1 ⟨M, rfl, _, _, hb1⟩
        go_wp2_with fail
        go_ret2
        exact NumC.rd Y.out hb1
end Go.Proofs.YtmapjepdcbpalaaGreatDoor

/- The contract of the program's ReadCause. -/
namespace Go.Proofs.YtmapjepdcbpalaaGreatDoor
open Go.RowKit
set_option linter.unusedVariables false

/-- A variable of the library's holds some number. -/
def MaxL (w : World) : Prop := ∃ m, w.cell? ⟨1, 0, none⟩ = some (.int .i64 m)
theorem MaxL.below {w w' : World} (h : MaxL w) (hb : Below w.heap.size w w') : MaxL w' := by
  obtain ⟨m, hm⟩ := h
  exact ⟨m, (hb.cell (p := ⟨1, 0, none⟩) (World.block_lt_of_cell? w _ hm)).trans hm⟩
theorem cut_any (s sep : ByteArray) (w : World) (hs : s.size ≤ 1048576) (hm : MaxL w) :
    Calls Tryz.prog 20 #[.string s, .string sep] w fun e w' => e = .returned (.tuple #[.string ⟨(Lib.cut s.data.toList sep.data.toList).1.toArray⟩, .string ⟨(Lib.cut s.data.toList sep.data.toList).2.1.toArray⟩, .bool (Lib.cut s.data.toList sep.data.toList).2.2]) ∧ Below w.heap.size w w' := by
  obtain ⟨m, hm⟩ := hm
  exact (Any.strings_Cut { Tryz.laysM145 with } s sep m w (by omega) hm).mono fun e w' ⟨he, n, hw⟩ => ⟨he, by subst hw; exact below_drewN (Below.refl _ _) n⟩
/-- What lies ahead of the call. -/
structure Env (w : World) : Prop where
  tab : Tab w
  errs : Errs w
  names : CNames w
  maxl : MaxL w
theorem Env.below {w w' : World} (h : Env w) (hb : Below w.heap.size w w') : Env w' := ⟨h.tab.below hb, h.errs.below hb, h.names.below hb, h.maxl.below hb⟩
def zsN : List ByteArray := [⟨#[]⟩, wordS 1, wordS 2, wordS 3]
theorem index_any (x : ByteArray) (w : World) (hN : CNames w) :
    Calls Tryz.prog 22 #[.slice (some ⟨0, 0, none⟩) 4 4, .string x] w fun e w' => e = .returned (.int .i64 (Lib.idxOfS zsN x)) ∧ w = w' :=
  (Tryz.slices_Index_string 0 0 4 4 zsN x w (by decide) (by decide) (fun j hj => by
    have h4 : j = 0 ∨ j = 1 ∨ j = 2 ∨ j = 3 := by have : j < 4 := hj; omega
    rcases h4 with rfl | rfl | rfl | rfl
    · exact hN.c0
    · exact hN.c1
    · exact hN.c2
    · exact hN.c3)).mono fun e w' ⟨he, hw⟩ => ⟨he, hw.symm⟩
theorem data_mk (l : List UInt8) : (ByteArray.mk l.toArray).data.toList = l := by simp

set_option maxHeartbeats 4000000 in
theorem implReadCause_any (s : ByteArray) (w : World) (hs : s.size ≤ 1048576) (hE : Env w) :
    Calls Tryz.prog 8 #[.string s] w fun e w' => e = .returned (readV s.data.toList) ∧ Below w.heap.size w w' := by
  have HE := Lib.hid hE; clear hE
  obtain ⟨P, hP⟩ : ∃ P : ByteArray, ⟨(Lib.cut s.data.toList [32]).1.toArray⟩ = P := ⟨_, rfl⟩
  obtain ⟨Q, hQ⟩ : ∃ Q : ByteArray, ⟨(Lib.cut s.data.toList [32]).2.1.toArray⟩ = Q := ⟨_, rfl⟩
  have HQ := Lib.hid (show Q.data.toList = (Lib.cut s.data.toList [32]).2.1 by rw [← hQ, data_mk])
  have HP := Lib.hid hP
  have hQs : Q.size ≤ 1048576 := by
    rw [Lib.size_eq, HQ.out]
    have : (Lib.cut s.data.toList [32]).2.1.length ≤ s.data.toList.length := by
      rw [Lib.cut]; split
      · simp
      · simp
    rw [← Lib.size_eq] at this; omega
  have hcut := fun W hW => cut_any s ⟨#[32]⟩ W hs hW
  rw [show (ByteArray.mk #[32]).data.toList = [32] from rfl, hP, hQ] at hcut
  obtain ⟨o, hno⟩ : ∃ o, numO (Lib.cut s.data.toList [32]).2.1 = o := ⟨_, rfl⟩
  have HNO := Lib.hid hno
  have hrd := fun W hT hE => readDecimal_any Q W hQs hT hE
  rw [show NumC Q.data.toList = NumC Q.data.toList from rfl] at hrd
  have HRD := Lib.hid hrd
  clear hP hQ hno hrd
  obtain ⟨ix, hix⟩ : ∃ ix, Lib.idxOfS zsN P = ix := ⟨_, rfl⟩
  have hindex := fun W hN => index_any P W hN
  rw [hix] at hindex
  have HIX := Lib.hid hix
  clear hix
  go_enter Tryz.func8, Tryz.ntmps8
  go_wp2_with fail
  refine (hcut _ (HE.out.maxl.below (by first | (go_grown; done) | (go_split_ands; assumption)))).mono ?_; rintro e w1 ⟨rfl, hb1⟩
  have B1 : Below w.heap.size w w1 := bel_tr (by first | (go_grown; done) | (go_split_ands; assumption)) hb1
  obtain ⟨hc1, hf1⟩ := bcell hb1
  have hz1 := hb1.size; simp only [World.size_alloc] at hz1
  have a0 : w1.cell? ⟨w.heap.size, 0, none⟩ = some (.int .i64 0) := (hc1 _ 0 (by simp)).trans (by go_simp)
  have a1 : w1.cell? ⟨w.heap.size, 1, none⟩ = some (.int .i64 0) := (hc1 _ 1 (by simp)).trans (by go_simp)
  have f0 : w1.frozen? ⟨w.heap.size, 0, none⟩ = false := (hf1 _ 0 (by simp)).trans (by go_simp)
  have f1 : w1.frozen? ⟨w.heap.size, 1, none⟩ = false := (hf1 _ 1 (by simp)).trans (by go_simp)
  clear hc1 hf1 hb1
  go_wp2_with fail
  refine (HRD.out _ (HE.out.tab.below B1) (HE.out.errs.below B1)).mono ?_; rintro e w2 ⟨he, hb2⟩
  rw [HQ.out, HNO.out] at he
  have B2 : Below w.heap.size w w2 := bel_tr B1 hb2
  obtain ⟨hc2, hf2⟩ := bcell hb2
  have hz2 := hb2.size
  have b0 := (hc2 _ 0 (by omega)).trans a0
  have b1 := (hc2 _ 1 (by omega)).trans a1
  have g0 := (hf2 _ 0 (by omega)).trans f0
  have g1 := (hf2 _ 1 (by omega)).trans f1
  have hl2 : w.heap.size < w2.heap.size := by omega
  clear hc2 hf2 hb2 a0 a1 f0 f1 hcut
  cases o with
  | none =>
    subst he
    have R := Lib.hid (readV_none (impl_none HNO.out))
    go_wp2_with fail
    refine (hindex _ (HE.out.names.below B2)).mono ?_; rintro e w3 ⟨rfl, rfl⟩
    go_wp2_with fail
    have hsz : ((w2.setCell ⟨w.heap.size, 0, none⟩ (.int .i64 0)).setCell ⟨w.heap.size, 1, none⟩ (.int .i64 0)).heap.size = w2.heap.size := by simp [World.setCell]
    have q0 := alloc_atS (w := (w2.setCell ⟨w.heap.size, 0, none⟩ (.int .i64 0)).setCell ⟨w.heap.size, 1, none⟩ (.int .i64 0)) (b := w.heap.size) (o := 0) (v := .int .i64 0) (by go_simp) (by rw [hsz]; exact hl2) (.cells #[.int .i64 ix, .int .i64 0] 33)
    have q1 := alloc_atS (w := (w2.setCell ⟨w.heap.size, 0, none⟩ (.int .i64 0)).setCell ⟨w.heap.size, 1, none⟩ (.int .i64 0)) (b := w.heap.size) (o := 1) (v := .int .i64 0) (by go_simp) (by rw [hsz]; exact hl2) (.cells #[.int .i64 ix, .int .i64 0] 33)
    refine bodyPost_ret (v := .tuple #[.agg #[.int .i64 0, .int .i64 0], .bool false]) (by simp [results, Tryz.results8, go_sem, q0, q1]) rfl ⟨by rw [R.out], ?_⟩
    go_grown
  | some n =>
    subst he
    have hct := fun W hT hN => implCauseText_any ⟨ix, n⟩ W hT hN
    by_cases hi : (causeS ⟨ix, n⟩).data.toList = s.data.toList
    · have R := Lib.hid (readV_some (impl_yes HNO.out hi))
      have E := Lib.hid (show causeS ⟨ix, n⟩ = s from Go.WideShapes.bytes_inj hi)
      clear hi
      go_wp2_with fail
      refine (hindex _ (HE.out.names.below B2)).mono ?_; rintro e w3 ⟨rfl, rfl⟩
      go_wp2_with fail
      refine (hct _ (HE.out.tab.below (bel_tr B2 (by first | (go_grown; done) | (go_split_ands; assumption)))) (HE.out.names.below (bel_tr B2 (by first | (go_grown; done) | (go_split_ands; assumption))))).mono ?_; rw [E.out]; rintro e w4 ⟨rfl, hb4⟩
      obtain ⟨hc4, hf4⟩ := bcell hb4
      have hz4 := hb4.size; simp only [World.size_alloc] at hz4
      have k0 : w4.cell? ⟨w.heap.size, 0, none⟩ = some (.int .i64 0) := (hc4 _ 0 (by simp; omega)).trans (by go_simp)
      have k1 : w4.cell? ⟨w.heap.size, 1, none⟩ = some (.int .i64 0) := (hc4 _ 1 (by simp; omega)).trans (by go_simp)
      have l0 : w4.frozen? ⟨w.heap.size, 0, none⟩ = false := (hf4 _ 0 (by simp; omega)).trans (by go_simp)
      have l1 : w4.frozen? ⟨w.heap.size, 1, none⟩ = false := (hf4 _ 1 (by simp; omega)).trans (by go_simp)
      have m0 : w4.cell? ⟨w2.heap.size, 0, none⟩ = some (.int .i64 ix) := (hc4 _ 0 (by simp)).trans (by go_simp)
      have m1 : w4.cell? ⟨w2.heap.size, 1, none⟩ = some (.int .i64 n) := (hc4 _ 1 (by simp)).trans (by go_simp)
      have T4 : Below w.heap.size w w4 := bel_tr (bel_tr B2 (by first | (go_grown; done) | (go_split_ands; assumption))) hb4
      have hne : w.heap.size ≠ w2.heap.size := by omega
      clear hc4 hf4 b0 b1 g0 g1
      go_wp2_with fail
      refine bodyPost_ret (v := .tuple #[.agg #[.int .i64 ix, .int .i64 n], .bool true]) (by simp [results, Tryz.results8, go_sem, k0, k1]) rfl ⟨by rw [R.out], ?_⟩
      go_grown
    · have R := Lib.hid (readV_none (impl_no HNO.out (by show (causeS ⟨Lib.idxOfS zsN ⟨(Lib.cut s.data.toList [32]).1.toArray⟩, n⟩).data.toList ≠ _; rw [HP.out, HIX.out]; exact hi)))
      obtain ⟨D9, hD9⟩ : ∃ D9, causeS ⟨ix, n⟩ = D9 := ⟨_, rfl⟩
      have E : ¬ D9 = s := fun h => hi (by rw [hD9, h])
      rw [hD9] at hct
      have hq : (D9.toList == s.toList) = false := str_ne E
      clear hi hD9 E
      go_wp2_with fail
      refine (hindex _ (HE.out.names.below B2)).mono ?_; rintro e w3 ⟨rfl, rfl⟩
      go_wp2_with fail
      refine (hct _ (HE.out.tab.below (bel_tr B2 (by first | (go_grown; done) | (go_split_ands; assumption)))) (HE.out.names.below (bel_tr B2 (by first | (go_grown; done) | (go_split_ands; assumption))))).mono ?_; rintro e w4 ⟨rfl, hb4⟩
      obtain ⟨hc4, hf4⟩ := bcell hb4
      have hz4 := hb4.size; simp only [World.size_alloc] at hz4
      have k0 : w4.cell? ⟨w.heap.size, 0, none⟩ = some (.int .i64 0) := (hc4 _ 0 (by simp; omega)).trans (by go_simp)
      have k1 : w4.cell? ⟨w.heap.size, 1, none⟩ = some (.int .i64 0) := (hc4 _ 1 (by simp; omega)).trans (by go_simp)
      have l0 : w4.frozen? ⟨w.heap.size, 0, none⟩ = false := (hf4 _ 0 (by simp; omega)).trans (by go_simp)
      have l1 : w4.frozen? ⟨w.heap.size, 1, none⟩ = false := (hf4 _ 1 (by simp; omega)).trans (by go_simp)
      have T4 : Below w.heap.size w w4 := bel_tr (bel_tr B2 (by first | (go_grown; done) | (go_split_ands; assumption))) hb4
      clear hc4 hf4 b0 b1 g0 g1
      go_wp2_with fail
      refine bodyPost_ret (v := .tuple #[.agg #[.int .i64 0, .int .i64 0], .bool false]) (by simp [results, Tryz.results8, go_sem, k0, k1]) rfl ⟨by rw [R.out], ?_⟩
      go_grown
end Go.Proofs.YtmapjepdcbpalaaGreatDoor

/- Tests of faults: the plain laws of FnFaultTests. No function is walked here. -/
namespace Go.Proofs.YtmapjepdcbpalaaGreatDoor
open Go.RowKit
set_option linter.unusedVariables false

theorem idxL_mem {p : Nat → Bool} : ∀ {k : Nat} {x : Int}, x ∈ idxL p k → 0 ≤ x ∧ x < (k : Int)
  | 0, _, h => by simp [idxL] at h
  | k + 1, x, h => by
    rw [idxL, List.mem_append] at h
    rcases h with h | h
    · have := idxL_mem h; omega
    · split at h
      · rw [List.mem_singleton] at h; omega
      · simp at h
theorem idxL_pair {p : Nat → Bool} : ∀ (k : Nat), (idxL p k).Pairwise (· < ·)
  | 0 => by simp [idxL]
  | k + 1 => by
    rw [idxL, List.pairwise_append]
    refine ⟨idxL_pair k, by split <;> simp, fun a ha b hb => ?_⟩
    split at hb
    · rw [List.mem_singleton] at hb
      have := idxL_mem ha; omega
    · simp at hb
theorem idxL_cnt (p : Nat → Bool) : ∀ k, (idxL p k).length = cntN p k
  | 0 => rfl
  | k + 1 => by
    rw [idxL, cntN, List.length_append, idxL_cnt p k]
    split <;> rfl
/-- Rising numbers from 0 to less than m, place by place. -/
def RisesAt (l : List Int) (m : Nat) : Prop := (∀ i, i < l.length → 0 ≤ nth l i ∧ nth l i < (m : Int)) ∧ ∀ i, i + 1 < l.length → nth l i < nth l (i + 1)
theorem idxL_rises (p : Nat → Bool) (k : Nat) : RisesAt (idxL p k) k :=
  ⟨fun i hi => idxL_mem (p := p) (by rw [nth_lt hi]; exact List.getElem_mem hi), fun i hi => by
    rw [nth_lt (show i < (idxL p k).length by omega), nth_lt hi]
    exact List.pairwise_iff_getElem.1 (idxL_pair k) i (i + 1) (by omega) hi (by omega)⟩
theorem bwC_zero {xs : List Batch} {c : Cause} (h : batchesOk xs = true) (hc : causeB c = true) : bwC xs c = 0 ∧ bwL xs c = idxL (fun k => hasB (nt xs k) c) xs.length := by
  have h0 : bwC xs c = 0 := by rw [bwC, if_pos h, if_pos hc]
  exact ⟨h0, by rw [bwL, if_pos h0]⟩
/-- How many batches have a cause. -/
def hasT (xs : List Batch) (n : Nat) (c : Cause) : Nat := cntN (fun k => hasB (nt xs k) c) n
theorem bw_len {xs : List Batch} {c : Cause} (h : batchesOk xs = true) (hc : causeB c = true) : (bwL xs c).length = hasT xs xs.length c := by rw [(bwC_zero h hc).2, idxL_cnt]; rfl
theorem hasT_pos {xs : List Batch} {c : Cause} (h : c ∈ inL xs) : 0 < hasT xs xs.length c := by
  obtain ⟨_, b, hb, hbc⟩ := mem_inL.1 h
  obtain ⟨k, hk, rfl⟩ := List.getElem_of_mem hb
  exact cntN_pos.2 ⟨k, hk, by rw [nt_lt hk]; exact hbc⟩
theorem causes_rise (b : Batch) : Rises (causesL b) := by
  simp [causesL, Rises, ltC]
theorem has_mem {b : Batch} {c : Cause} (hc : causeB c = true) : hasB b c = true ↔ c ∈ causesL b := by
  rw [← has_eq hc, List.any_eq_true]
  constructor
  · rintro ⟨d, hd, e⟩; rw [Cause.eqB_iff.1 e]; exact hd
  · intro h; exact ⟨c, h, Cause.eqB_iff.2 rfl⟩
theorem ok_causes {b : Batch} (h : b.okB = true) {c : Cause} (hc : c ∈ causesL b) : causeB c = true := by
  simp only [Batch.okB, Bool.and_eq_true, inB_true] at h
  simp only [causesL, List.mem_cons, List.not_mem_nil, or_false] at hc
  rw [causeB_iff]
  rcases hc with rfl | rfl | rfl <;> refine ⟨⟨?_, ?_⟩, ?_, ?_⟩ <;> simp only [] <;> omega
theorem filter_three {xs : List Batch} {b : Batch} (hb : b ∈ xs) (h : b.okB = true) : (inL xs).filter (hasB b) = causesL b := by
  refine rises_ext (((allC_rises 60).filter _).filter _) (causes_rise b) fun c => ?_
  rw [List.mem_filter, mem_inL]
  constructor
  · rintro ⟨⟨hc, _⟩, hh⟩; exact (has_mem hc).1 hh
  · intro hc
    have hok := ok_causes h hc
    have hh := (has_mem hok).2 hc
    exact ⟨⟨hok, b, hb, hh⟩, hh⟩
def sumF (f : Cause → Nat) : List Cause → Nat
  | [] => 0
  | c :: l => f c + sumF f l
theorem sumF_append (f : Cause → Nat) : ∀ l m, sumF f (l ++ m) = sumF f l + sumF f m
  | [], m => by simp [sumF]
  | c :: l, m => by rw [List.cons_append, sumF, sumF, sumF_append f l m]; omega
theorem sumF_take {f : Cause → Nat} {l : List Cause} {i : Nat} (h : i < l.length) : sumF f (l.take (i + 1)) = sumF f (l.take i) + f (nt l i) := by
  rw [take_snoc_nt h, sumF_append]; simp [sumF]
theorem sumF_one (p : Cause → Bool) : ∀ l, sumF (fun c => if p c = true then 1 else 0) l = (l.filter p).length
  | [] => rfl
  | c :: l => by
    rw [sumF, sumF_one p l, List.filter_cons]
    split <;> simp <;> omega
theorem sumF_add (f g : Cause → Nat) : ∀ l, sumF (fun c => f c + g c) l = sumF f l + sumF g l
  | [] => rfl
  | c :: l => by rw [sumF, sumF, sumF, sumF_add f g l]; omega
theorem sum_three {xs : List Batch} (hok : ∀ b ∈ xs, b.okB = true) : ∀ n, n ≤ xs.length → sumF (hasT xs n) (inL xs) = 3 * n
  | 0, _ => by
    have : ∀ l : List Cause, sumF (hasT xs 0) l = 0 := fun l => by
      induction l with
      | nil => rfl
      | cons c l ih => rw [sumF, ih]; rfl
    rw [this]
  | n + 1, h => by
    have e : hasT xs (n + 1) = fun c => hasT xs n c + (if hasB (nt xs n) c = true then 1 else 0) := by
      funext c; rfl
    have hm : nt xs n ∈ xs := nt_mem (by omega)
    rw [e, sumF_add, sum_three hok n (by omega), sumF_one, filter_three hm (hok _ hm)]
    show 3 * n + 3 = _
    omega
theorem sumF_le {xs : List Batch} (n : Nat) : ∀ l, sumF (hasT xs n) l ≤ l.length * n
  | [] => by simp [sumF]
  | c :: l => by
    have h1 := sumF_le (xs := xs) n l
    have h2 : hasT xs n c ≤ n := cntN_le _ _
    rw [sumF, List.length_cons, Nat.add_mul]; omega
theorem minAt_le {f : Nat → Nat} : ∀ {k i : Nat}, i < k → f (minAt f k) ≤ f i
  | k + 1, i, h => by
    by_cases h0 : k = 0
    · subst h0; obtain rfl : i = 0 := by omega
      rw [minAt_one]; exact Nat.le_refl _
    · by_cases hf : f k < f (minAt f k)
      · rw [minAt_yes (by omega) hf]
        rcases Nat.lt_or_ge i k with hlt | hge
        · exact Nat.le_trans (Nat.le_of_lt hf) (minAt_le hlt)
        · obtain rfl : i = k := by omega
          exact Nat.le_refl _
      · rw [minAt_no (by omega) hf]
        rcases Nat.lt_or_ge i k with hlt | hge
        · exact minAt_le hlt
        · obtain rfl : i = k := by omega
          omega
/-- One batch as a list. -/
theorem one_ok {b : Batch} (h : b.okB = true) : batchesOk [b] = true := by simp [batchesOk, h]
theorem one_len {b : Batch} {c : Cause} (h : b.okB = true) (hc : causeB c = true) : (bwL [b] c).length = if hasB b c = true then 1 else 0 := by
  rw [bw_len (one_ok h) hc]
  show hasT [b] 1 c = _
  simp [hasT, cntN, nt]
end Go.Proofs.YtmapjepdcbpalaaGreatDoor

/- The contracts of the law's own helpers a2Rises and a2Worst. -/
namespace Go.Proofs.YtmapjepdcbpalaaGreatDoor
open Go.RowKit
set_option linter.unusedVariables false

set_option maxHeartbeats 2000000 in
theorem a2Rises_any (A : Option Addr) (n c : Nat) (xs : List Int) (m : Nat) (w : World) (hA : Ints w A n xs) (hR : RisesAt xs m) (hm : m ≤ 1000000) :
    Calls Tryz.prog 10 #[.slice A n c, .int .i64 (m : Int)] w fun e w' => e = .returned (.bool true) ∧ Below w.heap.size w w' := by
  have hn := hA.bound
  have HR := Lib.hid hR
  have L := Lib.hid hA.len
  clear hR
  go_enter Tryz.func10, Tryz.ntmps10
  go_wp2
  go_loopw [5] (fun t wr => ∃ i : Nat, i ≤ n ∧ t = .int .i64 i ∧ Below w.heap.size w wr) (fun t _ => n - (intOf t).toNat)
  case atStart => exact ⟨0, Nat.zero_le _, rfl, Below.refl _ _⟩
  case round =>
    obtain ⟨i, hi, rfl, hB⟩ := hrel
    have HB := Lib.hid hB; clear hB
    by_cases hlt : i < n
    · obtain ⟨b, off, rfl, hb, hc⟩ := (hA.below HB.out).cell (by omega)
      have hci := hc i hlt
      obtain ⟨v, hv⟩ : ∃ v, nth xs i = v := ⟨_, rfl⟩
      obtain ⟨h0, h1⟩ := HR.out.1 i (by rw [L.out]; exact hlt)
      rw [hv] at h0 h1 hci
      have hn0 : ¬ v < 0 := by omega
      have hn1 : ¬ (m : Int) ≤ v := by omega
      have d0 : decide (v < 0) = false := decide_eq_false hn0
      have d1 : decide ((m : Int) ≤ v) = false := decide_eq_false hn1
      by_cases hi0 : i = 0
      · have dz : decide ((0 : Int) < (i : Int)) = false := decide_eq_false (by omega)
        have dz2 : decide (0 < i) = false := decide_eq_false (by omega)
        have hi1 : ¬ (0 : Int) < (i : Int) := by omega
        clear hc hv hi0
        go_wp2_with fail
        go_quiet (fail)
        go_wp2_with fail
        go_roundw
        case rel => exact ⟨i + 1, by omega, by go_num, below_drewN HB.out _⟩
        case measure => simp [intOf]; omega
      · obtain ⟨k, rfl⟩ : ∃ k, i = k + 1 := ⟨i - 1, by omega⟩
        have hck := hc k (by omega)
        obtain ⟨u, hu⟩ : ∃ u, nth xs k = u := ⟨_, rfl⟩
        have h2 := HR.out.2 k (by rw [L.out]; exact hlt)
        rw [hu, hv] at h2
        rw [hu] at hck
        have hn2 : ¬ v ≤ u := by omega
        have d2 : decide (v ≤ u) = false := decide_eq_false hn2
        have hp : (0 : Int) < ((k + 1 : Nat) : Int) := by omega
        clear hc hv hu hi0
        go_wp2_with fail
        go_quiet (fail)
        go_wp2_with fail
        go_roundw
        case rel => exact ⟨k + 1 + 1, by omega, by go_num, below_drewN HB.out _⟩
        case measure => simp [intOf]; omega
    · go_wp2
      go_ret
      exact ⟨rfl, HB.out⟩

theorem one_made (w : World) (b : Batch) : BatchS (w.alloc (.cells #[.int .i64 b.Clay, .int .i64 b.Mould, .int .i64 b.Chamber, .bool b.Bad] 42)) (some ⟨w.heap.size, 0, none⟩) 1 [b] :=
  ⟨rfl, by omega, fun _ => ⟨w.heap.size, 0, rfl, by simp, fun j hj => by
    obtain rfl : j = 0 := by omega
    exact ⟨by go_simp; rfl, by go_simp; rfl, by go_simp; rfl, by go_simp; rfl⟩⟩⟩
set_option maxHeartbeats 4000000 in
theorem a2Worst_any (b : Batch) (B : Option Addr) (m d : Nat) (ps : List Cause) (w : World) (hB : CauseS w B m ps) (hb : b.okB = true) (hps : ∀ c ∈ ps, causeB c = true) :
    Calls Tryz.prog 13 #[.agg #[.int .i64 b.Clay, .int .i64 b.Mould, .int .i64 b.Chamber, .bool b.Bad], .slice B m d] w fun e w' => e = .returned (.int .i64 (max (hasN ps b m) (m - hasN ps b m) : Nat)) ∧ Below w.heap.size w w' := by
  have hm := hB.bound
  have L := Lib.hid hB.len
  have HB := Lib.hid hB
  have HOK := Lib.hid hb
  have HPS := Lib.hid hps
  clear hB hb hps
  go_enter Tryz.func13, Tryz.ntmps13
  go_wp2_with fail
  go_loopw [5, 6] (fun s t wr => ∃ i : Nat, i ≤ m ∧ t = .int .i64 i ∧ s = .int .i64 (hasN ps b i : Nat) ∧ Below (w.alloc (.cells #[.int .i64 b.Clay, .int .i64 b.Mould, .int .i64 b.Chamber, .bool b.Bad] 42)).heap.size (w.alloc (.cells #[.int .i64 b.Clay, .int .i64 b.Mould, .int .i64 b.Chamber, .bool b.Bad] 42)) wr) (fun _ t _ => m - (intOf t).toNat)
  case atStart => exact ⟨0, Nat.zero_le _, rfl, rfl, Below.refl _ _⟩
  case round =>
    obtain ⟨i, hi, rfl, rfl, hbel⟩ := hrel
    have HW := Lib.hid (show Below w.heap.size w wr from bel_tr ((Below.refl _ _).alloc (Nat.le_refl _) _) hbel)
    have HBL := Lib.hid hbel
    obtain ⟨hcb, _⟩ := bcell hbel
    have k0 : wr.cell? ⟨w.heap.size, 0, none⟩ = some (.int .i64 b.Clay) := (hcb _ 0 (by simp)).trans (by go_simp)
    have k1 : wr.cell? ⟨w.heap.size, 1, none⟩ = some (.int .i64 b.Mould) := (hcb _ 1 (by simp)).trans (by go_simp)
    have k2 : wr.cell? ⟨w.heap.size, 2, none⟩ = some (.int .i64 b.Chamber) := (hcb _ 2 (by simp)).trans (by go_simp)
    have k3 : wr.cell? ⟨w.heap.size, 3, none⟩ = some (.bool b.Bad) := (hcb _ 3 (by simp)).trans (by go_simp)
    have hz := hbel.size; simp only [World.size_alloc] at hz
    have hle := hasN_le ps b i
    clear hcb hbel
    obtain ⟨wo, rfl⟩ : ∃ wo : World, wo = wr := ⟨_, rfl⟩
    by_cases hlt : i < m
    · obtain ⟨g, off, rfl, hg, hc⟩ := (HB.out.below HW.out).cell (by omega)
      obtain ⟨q0, q1⟩ := hc i hlt
      have hcc := HPS.out (nt ps i) (nt_mem (by rw [L.out]; exact hlt))
      have HL1 := Lib.hid (one_len HOK.out hcc)
      have hcode := (bwC_zero (one_ok HOK.out) hcc).1
      have hcon := fun W hW => specBatchesWith_any (some ⟨wo.heap.size, 0, none⟩) 1 1 [b] (nt ps i) W hW
      rw [hcode] at hcon
      have HO := Lib.hid (one_made wo b)
      have ha0 := alloc_atS q0 hg (.cells #[.int .i64 b.Clay, .int .i64 b.Mould, .int .i64 b.Chamber, .bool b.Bad] 42)
      have ha1 := alloc_atS q1 hg (.cells #[.int .i64 b.Clay, .int .i64 b.Mould, .int .i64 b.Chamber, .bool b.Bad] 42)
      have hwl : w.heap.size < wo.heap.size := by omega
      have ka0 := alloc_atS k0 hwl (.cells #[.int .i64 b.Clay, .int .i64 b.Mould, .int .i64 b.Chamber, .bool b.Bad] 42)
      clear hc hcc hcode
      obtain ⟨hs, hhs⟩ : ∃ hs, hasB b (nt ps i) = hs := ⟨_, rfl⟩
      rw [hhs] at HL1
      have HHS := Lib.hid hhs
      clear hhs
      go_wp2_with fail
      go_region_with ((go_at_call 28; refine (hcon _ (by first | exact HO.out | exact HO.out.below (below_drew (Below.refl _ _)))).mono ?_; rintro e w5 ⟨Q, q, dq, rfl, hI, _, _, hb5⟩; have hql := Lib.hid (hI.len); clear hI))
      all_goals
        have T5 : Below wo.heap.size wo w5 := by first | exact bel_tr (below_drew ((Below.refl _ _).alloc (Nat.le_refl _) _)) hb5 | exact bel_tr ((Below.refl _ _).alloc (Nat.le_refl _) _) hb5
        cases hs with
        | true =>
          have hq1 : q = 1 := by rw [← hql.out, HL1.out]; rfl
          subst hq1
          have HN := Lib.hid (hasN_yes (p := ps) (b := b) (q := i) HHS.out)
          go_wp2_with fail
          go_roundw
          case rel => exact ⟨i + 1, by omega, by go_num, by rw [HN.out]; go_num, bel_tr HBL.out (by first | exact T5 | exact below_drew T5)⟩
          case measure => simp [intOf]; omega
        | false =>
          have hq1 : q = 0 := by rw [← hql.out, HL1.out]; rfl
          subst hq1
          have HN := Lib.hid (hasN_no (p := ps) (b := b) (q := i) HHS.out)
          go_wp2_with fail
          go_roundw
          case rel => exact ⟨i + 1, by omega, by go_num, by rw [HN.out], bel_tr HBL.out (by first | exact T5 | exact below_drew T5)⟩
          case measure => simp [intOf]; omega
    · obtain rfl : i = m := by omega
      have hmx := max_nat hle
      go_wp2_with fail
      go_ret
      exact ⟨ret_int (by first | exact hmx | (rw [← hmx]) | (rw [← hmx]; rfl)), HW.out⟩
end Go.Proofs.YtmapjepdcbpalaaGreatDoor

/- The contracts of A2Batches and A2Causes: drawn batches and drawn causes. -/
namespace Go.Proofs.YtmapjepdcbpalaaGreatDoor
open Go.RowKit
set_option linter.unusedVariables false

/-- Drawn batches that a call has made. -/
def BatchM (w : World) (e : Ending) (w' : World) : Prop := ∃ A n c xs, e = .returned (.slice A n c) ∧ BatchS w' A n xs ∧ n ≤ 11 ∧ (∀ b ∈ xs, smallB b = true) ∧ Below w.heap.size w w'
theorem a2Batches_any (A : Option Addr) (n c : Nat) (w : World) (h : Bys w A n) :
    Calls Tryz.prog 5 #[.slice A n c] w (BatchM w) := by
  have HB := Lib.hid h; clear h
  go_enter Tryz.func5, Tryz.ntmps5
  go_wp2_with fail
  refine (from_any A n c _ HB.out).mono ?_; rintro e w1 ⟨p, rfl, hp, hS, hb1⟩
  have HS := Lib.hid hS; clear hS
  go_wp2_with fail
  refine (l18Draw_any p 0 _ HS.out (by omega) (by omega)).mono ?_; rintro e w2 ⟨A2, n2, c2, xs, rfl, hX, hn, hsm, hD⟩
  have HX := Lib.hid hX; have HSM := Lib.hid hsm; clear hX hsm
  go_wp2_with fail
  go_ret
  exact ⟨A2, n2, c2, xs, rfl, HX.out, hn, HSM.out, hD.below hb1 hb1.size hp⟩

/-- Drawn causes that a call has made. -/
def CauseM (w : World) (e : Ending) (w' : World) : Prop := ∃ A n c cs, e = .returned (.slice A n c) ∧ CauseS w' A n cs ∧ n ≤ 3 ∧ (∀ c ∈ cs, causeB c = true) ∧ Below w.heap.size w w'
theorem CauseM.own {base : Nat} {w w' : World} {v : Value} {cs : List Cause} (h : OwnC w' base v cs) (hl : (cs.length : Int) ≤ 3) (hs : ∀ c ∈ cs, causeB c = true) (hD : Below w.heap.size w w') : CauseM w (.returned v) w' := by
  obtain ⟨g, cap, rfl, _, _, hR⟩ := h.row
  exact ⟨_, _, _, cs, rfl, hR.S rfl (by omega), by omega, hs, hD⟩
end Go.Proofs.YtmapjepdcbpalaaGreatDoor

/- From what the card lists to what the walks ask: the table of powers of ten, the names of the kinds of causes. -/
namespace Go.Proofs.YtmapjepdcbpalaaGreatDoor
open Go.ChangeShapes Go.WideShapes Go.ChangeAt Go.WideMaps Go.WideElems Go.RowKit
set_option linter.unusedVariables false

theorem pow10_datum {H : Type} : (Rows.laid_internal_strconv_uint64pow10 : DataW H) = Lib.tabData .u64 Lib.pow10Tab := by
  simp only [Rows.laid_internal_strconv_uint64pow10, Lib.tabData]
  rfl
theorem tab_type : (Tryz.prog.globals[4]?).map (·.type) = some 138 := by kernel_rfl
theorem tab_of {W : World} {rest : List (String × DataW Unit)} (h : laidMet Tryz.prog (("internal/strconv.uint64pow10", Rows.laid_internal_strconv_uint64pow10) :: rest) W) : Tab W := by
  rw [pow10_datum] at h
  exact Lib.tabIs_of_head tab_glob tab_type Tryz.underlying138 Tryz.underlying63 (by kernel_rfl) (by kernel_rfl) h
/-- An array of strings that is listed first. -/
theorem strings_of {W : World} {name : String} {n g t ts : Nat} {D : List (DataW Unit)} {rest : List (String × DataW Unit)} (hg : Tryz.prog.globalNamed name = some g) (ht : (Tryz.prog.globals[g]?).map (·.type) = some t)
    (hu : Tryz.prog.underlying t = some (.array n ts)) (hs : Tryz.prog.underlying ts = some .string) (cA : Tryz.prog.cellsOf t = n) (cS : Tryz.prog.cellsOf ts = 1) (h : laidMet Tryz.prog ((name, .agg D) :: rest) W) :
    ∀ (i : Nat) (s : List UInt8), i < n → D[i]? = some (.lit (.string s)) → W.cell? ⟨g, i, none⟩ = some (.string ⟨s.toArray⟩) := by
  obtain ⟨ps, ⟨g0, t0, cs0, f0, p0, q0, hg0, ht0, hv0, hd0, _⟩, _⟩ := h
  obtain rfl := Option.some.inj (hg.symm.trans hg0)
  obtain rfl := Option.some.inj (ht.symm.trans ht0)
  obtain ⟨xs, m1, rfl, hx1, hlen, hn, hel⟩ := DataW.trod_array hu hd0
  simp only [Prod.mk.injEq, DataW.agg.injEq] at hx1
  obtain ⟨hx1, _⟩ := hx1
  rw [cA] at hlen
  rw [cS] at hel
  intro i s hi hxs
  have h1 := hel i hi
  have hxl : i < xs.length := by rw [hn]; exact hi
  have hxi : xs[i]? = some (xs[i]'hxl) := List.getElem?_eq_getElem hxl
  rw [hxi] at h1
  obtain ⟨b, e1, e2, _⟩ := DataW.trod_string hs h1
  rw [hx1, List.getElem?_map, hxi, e2] at hxs
  simp at hxs
  have hc : cs0.toList[i]? = some (.string b) := by
    have := congrArg (fun l => l[0]?) e1
    simpa [List.getElem?_take, List.getElem?_drop] using this
  have h2 := World.var?_cell hg0 hv0 i
  rw [h2]
  have : b = ⟨s.toArray⟩ := by rw [← hxs]
  rw [← this]
  simpa using hc
theorem cn_glob : Tryz.prog.globalNamed "loop.example/g01042/impl.causeNames" = some 0 := by kernel_rfl
theorem cn_type : (Tryz.prog.globals[0]?).map (·.type) = some 55 := by kernel_rfl
theorem names_of {W : World} {rest : List (String × DataW Unit)} (h : laidMet Tryz.prog (("loop.example/g01042/impl.causeNames", Rows.laid_loop_example_g01042_impl_causeNames) :: rest) W) : CNames W := by
  have key := strings_of cn_glob cn_type Tryz.underlying55 Tryz.underlying9 (by kernel_rfl) (by kernel_rfl) h
  exact ⟨key 0 [] (by omega) rfl, key 1 _ (by omega) rfl, key 2 _ (by omega) rfl, key 3 _ (by omega) rfl⟩
end Go.Proofs.YtmapjepdcbpalaaGreatDoor

/- The row's wrap with a listed variable and the world's shape; what the lists of variables give. No function is walked here. -/
namespace Go.Proofs.YtmapjepdcbpalaaGreatDoor
open Go.ChangeShapes Go.WideShapes Go.ChangeAt Go.WideMaps Go.WideElems Go.RowKit
set_option linter.unusedVariables false

theorem handed_shaped {H : Type} {enc : TypeId × Value → H} {a : Assume} {C : Checked} {os : Os} {f : FuncId} {fn : Func} {s : ChangeSpec} {conds : List PathCond} {apart fresh handsOn again : Bool} {X : World → Array Value → Prop}
    (hX : ∀ (w w' : World) (args : Array Value), w.heap = w'.heap → X w args → X w' args)
    (own : ownKnob C.prog.godebug = none) (started : os.Started) (noInit : C.prog.inits.idxOf? f = none) (hfn : C.prog.funcs[f]? = some fn)
    (witness : ∃ (w : World) (tape : Tape) (i : Input), w.os = os ∧ (w.forCall tape i).Shaped C.prog ∧ i.vars = [] ∧ Input.okWide C.prog (w.forCall tape i) .any w.heap.size f i ∧
      ((s.pre enc C.prog fn conds apart (w.forCall tape i).memory i.args ∧ X (w.forCall tape i).memory i.args) ∧ sizedMet enc C.prog fn (OpenSpec.ofChange s) apart (w.forCall tape i).memory i.args) ∧ a.holds C.prog (lone (Frame.enter C.prog f i.args .normal) [] (w.forCall tape i)))
    (contract : ∀ (W : World) (base : Nat) (args : Array Value) (ds gs : List (DataW H)) (before : List MemPlace),
      (∀ (j : Nat) t v, fn.params[j]? = some t → args[j]? = some v → Value.okWide C.prog W .any base t v) →
      DataW.Whole enc C.prog fn.params.toList s.vars apart W args.toList ds gs before → X W args → W.ShapedOpen C.prog →
      Calls C.prog f args W fun e W' => ∃ v, e = .returned v ∧ s.post enc C.prog fn apart fresh handsOn again W args v W') :
    ReturnsInHanded a C os f .any (fun w args => (s.pre enc C.prog fn conds apart w args ∧ X w args) ∧ sizedMet enc C.prog fn (OpenSpec.ofChange s) apart w args) (s.post enc C.prog fn apart fresh handsOn again) := by
  refine returnsInHanded_of_calls own started noInit witness ?_
  intro w tape i _ hsh _ hok hpre hholds
  obtain ⟨_, _, _, fn', hfn', _, _, _, _, hval⟩ := hok
  have e : fn' = fn := Option.some.inj (hfn'.symm.trans hfn)
  subst e
  obtain ⟨⟨⟨ds, gs, before, hw, hc⟩, hx⟩, hz⟩ := hpre
  have hw' := DataW.Whole.of_heap (w' := w.forCall tape i) (by rfl) hw
  refine (contract (w.forCall tape i) w.heap.size i.args ds gs before hval hw' (hX _ _ _ (by rfl) hx) hsh).mono fun e W' ⟨v, he, hp⟩ => ?_
  subst he
  exact ChangeSpec.post_blind hp

theorem es_type : (Tryz.prog.globals[2]?).map (·.type) = some 76 := by kernel_rfl
theorem er_type : (Tryz.prog.globals[3]?).map (·.type) = some 76 := by kernel_rfl
theorem es_cells : Tryz.prog.cellsOf 147 = 1 := by kernel_rfl
theorem st_cells : Tryz.prog.cellsOf 9 = 1 := by kernel_rfl
theorem es_star : "*" ++ "errors.errorString" = "*errors.errorString" := by decide
theorem es_row (u : TypeId) (h : Tryz.prog.typeName? 3 u = some "*errors.errorString") : u = 145 :=
  typeName_ptr_named (nm := "errors.errorString") (by rw [es_star]; kernel_rfl) (by kernel_rfl) (by decide) u (by rw [es_star]; exact h)
theorem errs_of {W : World} {rest : List (String × DataW Unit)} (h : laidMet Tryz.prog (("strconv.ErrRange", Rows.laid_strconv_ErrRange) :: ("strconv.ErrSyntax", Rows.laid_strconv_ErrSyntax) :: rest) W) : Errs W := by
  obtain ⟨a0, s0, h0, -, -, -⟩ := laid_sentinel h er_glob er_type Tryz.underlying76 es_row Tryz.underlying145 Tryz.underlying147 rfl rfl Tryz.underlying9 es_cells st_cells
  obtain ⟨a1, s1, h1, -, -, -⟩ := laid_sentinel h.tail es_glob es_type Tryz.underlying76 es_row Tryz.underlying145 Tryz.underlying147 rfl rfl Tryz.underlying9 es_cells st_cells
  exact ⟨⟨_, _, h1⟩, _, _, h0⟩
theorem maxl_of {W : World} (h : W.ShapedOpen Tryz.prog) : MaxL W := Tryz.laysM145.s1_3 W h
end Go.Proofs.YtmapjepdcbpalaaGreatDoor

/- An argument that is a slice of bytes, opened; the law's own bound on two of them. -/
namespace Go.Proofs.YtmapjepdcbpalaaGreatDoor
open Go.ChangeShapes Go.WideShapes Go.ChangeAt Go.RowKit Go.Joins
set_option linter.unusedVariables false

/-- A slice of bytes that came in. -/
def BysRaw (w : World) (A : Option Addr) (n : Nat) : Prop := n ≤ 9223372036854775807 ∧ (0 < n → ∃ b off, A = some ⟨b, off, none⟩ ∧ b < w.heap.size ∧ ∀ j, j < n → ∃ v : Int, 0 ≤ v ∧ v ≤ 255 ∧ w.cell? ⟨b, off + j, none⟩ = some (.int .u8 v))
theorem BysRaw.bys {w : World} {A : Option Addr} {n : Nat} (h : BysRaw w A n) (hn : n ≤ 1048576) : Bys w A n := ⟨hn, h.2⟩
theorem Bys.below {w w' : World} {A : Option Addr} {n : Nat} (h : Bys w A n) (hb : Below w.heap.size w w') : Bys w' A n :=
  ⟨h.1, fun hn => by
    obtain ⟨b, off, e, hl, hc⟩ := h.2 hn
    exact ⟨b, off, e, Nat.lt_of_lt_of_le hl hb.size, fun j hj => by
      obtain ⟨v, h0, h1, h2⟩ := hc j hj
      exact ⟨v, h0, h1, (hb.cell (p := ⟨b, off + j, none⟩) hl).trans h2⟩⟩⟩
theorem param_bys {H : Type} {enc : TypeId × Value → H} {P : Program} {w : World} {base : Nat} {spare : Nat → Bool} {held : Bool} {t e : TypeId} {A : Option Addr} {n c : Nat} {d : DataW H} {p : List MemPlace}
    (ht : P.underlying t = some (.slice e)) (he : P.underlying e = some (.int .u8)) (hc : P.cellsOf e = 1) (h : DataW.Trod enc P w base spare held t (.slice A n c) d p) :
    BysRaw w A n := by
  obtain ⟨fuel, hf⟩ := h
  rcases open_ints ht he hc hf with ⟨hcs, _⟩ | ⟨a, len, cap, zs, hcs, _, hl, hm, hz, _, hcell, hwz⟩
  · simp [Value.cells] at hcs
    obtain ⟨rfl, rfl, rfl⟩ := hcs
    exact ⟨by omega, fun h => absurd h (by omega)⟩
  · simp [Value.cells] at hcs
    obtain ⟨rfl, rfl, rfl⟩ := hcs
    have hzl : n ≤ zs.length := by rw [hz]; split <;> omega
    unfold maxLen at hm
    refine ⟨by omega, fun hn => ?_⟩
    obtain ⟨b, off, spot⟩ := a
    have h0 := hcell 0 (by omega)
    have hspot : spot = none := by simpa [Addr.add] using World.cell?_spot h0
    subst hspot
    refine ⟨b, off, rfl, World.block_lt_of_cell? w _ (by simpa [Addr.add] using h0), fun j hj => ?_⟩
    have h1 := hcell j (by omega)
    rw [add_none b off j none rfl] at h1
    have hmem : zs.getD j 0 ∈ zs := by
      rw [List.getD_eq_getElem?_getD, List.getElem?_eq_getElem (by omega)]
      exact List.getElem_mem _
    obtain ⟨b0, b1⟩ := bounds_u8 (hwz _ hmem)
    exact ⟨_, b0, b1, h1⟩
theorem long_yes (A : Option Addr) (n c : Nat) (B : Option Addr) (m d : Nat) (w : World) (hn : n ≤ 9223372036854775807) (hm : m ≤ 9223372036854775807) (h : (3000 : Int) < n ∨ (3000 : Int) < m) :
    Calls Tryz.prog 4 #[.slice A n c, .slice B m d] w fun e w' => e = .returned (.bool true) ∧ w = w' := by
  by_cases h1 : (3000 : Int) < n
  · go_enter Tryz.func4, Tryz.ntmps4
    go_wp2
    go_ret
    exact ⟨rfl, rfl⟩
  · have h2 : (3000 : Int) < m := h.resolve_left h1
    clear h
    go_enter Tryz.func4, Tryz.ntmps4
    go_wp2
    go_ret
    exact ⟨rfl, rfl⟩
theorem long_no (A : Option Addr) (n c : Nat) (B : Option Addr) (m d : Nat) (w : World) (h1 : ¬ (3000 : Int) < n) (h2 : ¬ (3000 : Int) < m) :
    Calls Tryz.prog 4 #[.slice A n c, .slice B m d] w fun e w' => e = .returned (.bool false) ∧ w = w' := by
  go_enter Tryz.func4, Tryz.ntmps4
  go_wp2
  go_ret
  exact ⟨rfl, rfl⟩
end Go.Proofs.YtmapjepdcbpalaaGreatDoor

