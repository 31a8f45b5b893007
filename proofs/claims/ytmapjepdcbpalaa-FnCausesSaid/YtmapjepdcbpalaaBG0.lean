/- The contract of the program's FewestCauses. -/
import Derived.Test.YtmapjepdcbpalaaBF
import Derived.Test.YtmapjepdcbpalaaOX
import Derived.Lib.RabinKarpLaws
namespace Go.Proofs.Ytmapjepdcbpalaa
open Go.RowKit
set_option linter.unusedVariables false

theorem cmpL_cons_eq {a b : Cause} {l m : List Cause} (h : cmpC a b = 0) : cmpL (a :: l) (b :: m) = cmpL l m := by rw [cmpL, if_pos h]
theorem cmpL_cons_ne {a b : Cause} {l m : List Cause} (h : cmpC a b ≠ 0) : cmpL (a :: l) (b :: m) = cmpC a b := by rw [cmpL, if_neg h]
set_option maxHeartbeats 2000000 in
theorem compareF_any (A : Option Addr) (n c : Nat) (xs : List Cause) (B : Option Addr) (m d : Nat) (ys : List Cause) (w : World) (hA : CauseS w A n xs) (hB : CauseS w B m ys) :
    Calls Try.prog 55 #[.slice A n c, .slice B m d, .func (.func 56) #[] #[]] w fun e w' => e = .returned (.int .i64 (cmpL xs ys)) ∧ Below w.heap.size w w' := by
  have hn := hA.bound
  have hm := hB.bound
  have L := Lib.hid hA.len
  have M := Lib.hid hB.len
  obtain ⟨v, hv⟩ : ∃ v, cmpL xs ys = v := ⟨_, rfl⟩
  rw [hv]
  have V := Lib.hid hv; clear hv
  go_enter Try.func55, Try.ntmps55
  go_wp2
  go_loopw [13] (fun i wr => ∃ k : Nat, k ≤ n ∧ k ≤ m ∧ i = .int .i64 k ∧ cmpL xs ys = cmpL (xs.drop k) (ys.drop k) ∧ Below w.heap.size w wr) (fun i _ => n - (intOf i).toNat)
  case atStart => exact ⟨0, Nat.zero_le _, Nat.zero_le _, rfl, rfl, Below.refl _ _⟩
  case round =>
    obtain ⟨k, hk, hkm, rfl, hd, hbel⟩ := hrel
    have D := Lib.hid hd; clear hd
    obtain ⟨wc, rfl⟩ : ∃ wc : World, wc = wr := ⟨_, rfl⟩
    by_cases hlt : k < n
    · obtain ⟨b, off, rfl, hb, hc⟩ := (hA.below hbel).cell (by omega)
      obtain ⟨hq0, hq1⟩ := hc k hlt
      clear hc
      have DX := Lib.hid (drop_nt (xs := xs) (k := k) (by rw [L.out]; exact hlt))
      by_cases hltm : k < m
      · obtain ⟨b2, off2, rfl, hb2, hc2⟩ := (hB.below hbel).cell (by omega)
        obtain ⟨hr0, hr1⟩ := hc2 k hltm
        clear hc2
        have DY := Lib.hid (drop_nt (xs := ys) (k := k) (by rw [M.out]; exact hltm))
        have hcc := fun W => compareCauses_any (nt xs k) (nt ys k) W
        by_cases z : cmpC (nt xs k) (nt ys k) = 0
        · have Z := Lib.hid (cmpL_cons_eq (l := xs.drop (k + 1)) (m := ys.drop (k + 1)) z)
          rw [z] at hcc
          clear z
          go_wp2_with ((first | go_at_call 56 | go_at_fn 56); refine (hcc _).mono ?_; rintro e w5 ⟨rfl, hg5⟩)
          have T5 : Below wc.heap.size wc w5 := bel_tr (by first | (go_grown; done) | (go_split_ands; assumption)) hg5.below
          go_roundw
          case rel => exact ⟨k + 1, by omega, by omega, by go_num, by rw [D.out, DX.out, DY.out, Z.out], bel_tr hbel T5⟩
          case measure => simp [intOf]; omega
        · have Z := Lib.hid (show cmpC (nt xs k) (nt ys k) = v by rw [← V.out, D.out, DX.out, DY.out, cmpL_cons_ne z])
          rw [Z.out] at hcc z
          have hz : (v == 0) = false := by rw [beq_eq_false_iff_ne]; exact z
          go_wp2_with ((first | go_at_call 56 | go_at_fn 56); refine (hcc _).mono ?_; rintro e w5 ⟨rfl, hg5⟩)
          have T5 : Below wc.heap.size wc w5 := bel_tr (by first | (go_grown; done) | (go_split_ands; assumption)) hg5.below
          go_ret
          exact ⟨rfl, bel_tr hbel T5⟩
      · have hkm' : m = k := by omega
        have Z := Lib.hid (show v = 1 by rw [← V.out, D.out, DX.out, show ys.drop k = [] from List.drop_of_length_le (by rw [M.out]; omega)]; rfl)
        subst hkm'
        go_wp2
        go_ret
        exact ⟨ret_int (by rw [Z.out]), bel_tr hbel (by first | (go_grown; done) | (go_split_ands; assumption))⟩
    · obtain rfl : n = k := by omega
      by_cases hltm : n < m
      · have Z := Lib.hid (show v = -1 by rw [← V.out, D.out, drop_nt (xs := ys) (by rw [M.out]; exact hltm), show xs.drop n = [] from List.drop_of_length_le (by rw [L.out]; exact Nat.le_refl _)]; rfl)
        have hltm' : (n : Int) < (m : Int) := by omega
        go_wp2
        go_ret
        exact ⟨ret_int (by rw [Z.out]), hbel⟩
      · have Z := Lib.hid (show v = 0 by rw [← V.out, D.out, show xs.drop n = [] from List.drop_of_length_le (by rw [L.out]; exact Nat.le_refl _), show ys.drop n = [] from List.drop_of_length_le (by rw [M.out]; omega)]; rfl)
        have hltm' : ¬ (n : Int) < (m : Int) := by omega
        go_wp2
        go_ret
        exact ⟨ret_int (by rw [Z.out]), hbel⟩

set_option maxHeartbeats 1000000 in
theorem few1_any (b : Batch) (g : Nat) (A : Option Addr) (n cp : Nat) (cs : List Cause) (w : World) (hA : CauseS w A n cs) (hcs : ∀ c ∈ cs, causeB c = true) (hg : w.cell? ⟨g, 0, none⟩ = some (.slice A n cp)) (hl : g < w.heap.size) :
    Calls Try.prog 58 #[.agg #[.int .i64 b.Clay, .int .i64 b.Mould, .int .i64 b.Chamber, .bool b.Bad], .pointer (some ⟨g, 0, none⟩)] w fun e w' => e = .returned (.bool (!cs.any (hasB b))) ∧ Below w.heap.size w w' := by
  have HCS := Lib.hid hcs; clear hcs
  have hg1 : ∀ o, (w.alloc o).cell? ⟨g, 0, none⟩ = some (.slice A n cp) := fun o => (((Below.refl _ w).alloc (Nat.le_refl _) o).cell (p := ⟨g, 0, none⟩) hl).trans hg
  go_enter Try.func58, Try.ntmps58
  go_wp2_with fail
  refine (hasAny_any b _ _ _ cs _ (hA.below (by first | (go_grown; done) | (go_split_ands; assumption))) HCS.out).mono ?_; rintro e w1 ⟨rfl, hb1⟩
  have T1 : Below w.heap.size w w1 := bel_tr (by first | (go_grown; done) | (go_split_ands; assumption)) hb1
  go_wp2_with fail
  go_ret
  exact ⟨rfl, T1⟩
theorem eg_few1 : ∀ args w, (callFunc 58 args).run Try.prog w = .ok (.enter 58 args) w := enters_of Try.func58 (by kernel_rfl) rfl
theorem cellB {w w' : World} {b o : Nat} {v : Value} (h : w.cell? ⟨b, o, none⟩ = some v) (hl : b < w.heap.size) (hb : Below w.heap.size w w') : w'.cell? ⟨b, o, none⟩ = some v := (hb.cell (p := ⟨b, o, none⟩) hl).trans h
theorem frozB {w w' : World} {b o : Nat} {x : Bool} (h : w.frozen? ⟨b, o, none⟩ = x) (hl : b < w.heap.size) (hb : Below w.heap.size w w') : w'.frozen? ⟨b, o, none⟩ = x := (hb.frozen (p := ⟨b, o, none⟩) hl).trans h
theorem any_ex (bs : List Batch) (cs : List Cause) : bs.any (fun b => !cs.any (hasB b)) = !exB bs cs := by
  rw [exB]
  induction bs with
  | nil => rfl
  | cons a l ih => rw [List.any_cons, List.all_cons, ih, Bool.not_and]
theorem subK_pos {p : List Cause} {m : Nat} (h : ∀ c ∈ p, causeB c = true) : ∀ c ∈ subK p m p.length, causeB c = true := fun c hc => by
  have := (subK_sub (p := p) (m := m) (Nat.le_refl _)).subset hc
  rw [List.take_length] at this
  exact h c this
theorem pow_le16 {n : Nat} (h : n ≤ 16) : 1 ≤ 2 ^ n ∧ 2 ^ n ≤ 65536 :=
  ⟨Nat.pow_pos (by omega), Nat.le_trans (Nat.pow_le_pow_right (by omega) h) (by decide)⟩
end Go.Proofs.Ytmapjepdcbpalaa
