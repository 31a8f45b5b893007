/- The contracts of BestTest, the reference's and the program's. -/
import Derived.Test.YtmapjepdcbpalaaBD
namespace Go.Proofs.Ytmapjepdcbpalaa
open Go.RowKit
set_option linter.unusedVariables false

/-- The first place of the least of the first k numbers. -/
def minAt (f : Nat → Nat) : Nat → Nat
  | 0 => 0
  | k + 1 => if k = 0 then 0 else if f k < f (minAt f k) then k else minAt f k
theorem minAt_one (f : Nat → Nat) : minAt f (0 + 1) = 0 := rfl
theorem minAt_yes {f : Nat → Nat} {k : Nat} (hk : 0 < k) (h : f k < f (minAt f k)) : minAt f (k + 1) = k := by rw [minAt, if_neg (by omega), if_pos h]
theorem minAt_no {f : Nat → Nat} {k : Nat} (hk : 0 < k) (h : ¬ f k < f (minAt f k)) : minAt f (k + 1) = minAt f k := by rw [minAt, if_neg (by omega), if_neg h]
theorem minAt_lt {f : Nat → Nat} : ∀ {k : Nat}, 0 < k → minAt f k < k
  | k + 1, _ => by
    rw [minAt]
    by_cases h0 : k = 0
    · rw [if_pos h0]; omega
    · rw [if_neg h0]
      have := minAt_lt (f := f) (k := k) (by omega)
      split <;> omega
/-- How many of the first q causes a batch has. -/
def hasN (p : List Cause) (b : Batch) (q : Nat) : Nat := cntN (fun j => hasB b (nt p j)) q
def worstN (ts : List Batch) (p : List Cause) (i : Nat) : Nat := max (hasN p (nt ts i) p.length) (p.length - hasN p (nt ts i) p.length)
theorem hasN_le (p : List Cause) (b : Batch) (q : Nat) : hasN p b q ≤ q := cntN_le _ _
theorem hasN_yes {p : List Cause} {b : Batch} {q : Nat} (h : hasB b (nt p q) = true) : hasN p b (q + 1) = hasN p b q + 1 := cntN_yes (p := fun j => hasB b (nt p j)) h
theorem hasN_no {p : List Cause} {b : Batch} {q : Nat} (h : hasB b (nt p q) = false) : hasN p b (q + 1) = hasN p b q := cntN_no (p := fun j => hasB b (nt p j)) h
/-- The best so far: how the reference and the program hold it. -/
def BestS (f : Nat → Nat) (k : Nat) (b l : Int) : Prop := (k = 0 ∧ b = -1 ∧ l = 0) ∨ (0 < k ∧ b = (minAt f k : Nat) ∧ l = (f (minAt f k) : Nat))
def BestI (f : Nat → Nat) (k : Nat) (b l : Int) : Prop := (k = 0 ∧ b = 0 ∧ l = -1) ∨ (0 < k ∧ b = (minAt f k : Nat) ∧ l = (f (minAt f k) : Nat))

def btC (xs ts : List Batch) : Int := if batchesOk xs = true then (if batchesOk ts = true then (if ts = [] then 3 else if xs.any (·.Bad) = true then 0 else 3) else 1) else 1
def btV (xs ts : List Batch) : Int := if btC xs ts = 0 then (minAt (worstN ts (posL xs)) ts.length : Nat) else 0
def BtC (xs ts : List Batch) (w : World) (e : Ending) (w' : World) : Prop := e = .returned (.tuple #[.int .i64 (btV xs ts), .int .i64 (btC xs ts)]) ∧ Below w.heap.size w w'
theorem BtC.mk {xs ts : List Batch} {w w' : World} {v c : Int} (h : btV xs ts = v) (k : btC xs ts = c) (hb : Below w.heap.size w w') : BtC xs ts w (.returned (.tuple #[.int .i64 v, .int .i64 c])) w' := by
  subst h; subst k; exact ⟨rfl, hb⟩
theorem BtC.bad {xs ts : List Batch} {w w' : World} {c : Int} (k : btC xs ts = c) (h0 : c ≠ 0) (hb : Below w.heap.size w w') : BtC xs ts w (.returned (.tuple #[.int .i64 0, .int .i64 c])) w' :=
  BtC.mk (by rw [btV, k, if_neg h0]) k hb
theorem max_nat {c n : Nat} (h : c ≤ n) : max (c : Int) ((n : Int) - (c : Int)) = (max c (n - c) : Nat) := by omega

theorem l00Max_any (a b : Int) (w : World) :
    Calls Try.prog 82 #[.int .i64 a, .int .i64 b] w fun e w' => e = .returned (.int .i64 (max a b)) ∧ w = w' := by
  go_enter Try.func82, Try.ntmps82
  go_wp2
  all_goals (go_ret; exact ⟨ret_int (by omega), rfl⟩)
set_option maxHeartbeats 8000000 in
theorem specBestTest_any (A : Option Addr) (n c : Nat) (xs : List Batch) (B : Option Addr) (m d : Nat) (ts : List Batch) (w : World) (hA : BatchS w A n xs) (hB : BatchS w B m ts) :
    Calls Try.prog 42 #[.slice A n c, .slice B m d] w (BtC xs ts w) := by
  have hn := hA.bound
  have hm := hB.bound
  have L := Lib.hid hA.len
  have M := Lib.hid hB.len
  rcases Bool.eq_false_or_eq_true (batchesOk xs) with g | g
  · rcases Bool.eq_false_or_eq_true (batchesOk ts) with g1 | g1
    · rcases Nat.eq_zero_or_pos m with z | z
      · have R := Lib.hid (show btC xs ts = 3 by
          rw [btC, if_pos g, if_pos g1, if_pos]
          exact List.length_eq_zero_iff.1 (by rw [M.out, z]))
        subst z
        have G := Lib.hid g; have G1 := Lib.hid g1; clear g g1
        go_enter Try.func42, Try.ntmps42
        go_wp2_with fail
        (refine (asB (l18Ok_any _ _ _ xs _ (hA.below (by first | (go_grown; done) | (go_split_ands; assumption)))) G.out).mono ?_; rintro e w1 ⟨rfl, hb1⟩; obtain ⟨hc1, hf1⟩ := bcell hb1; have hz1 := hb1.size; (try simp only [World.size_alloc] at hz1); (try simp only [World.size_setCell] at hz1); (try simp only [World.size_drew] at hz1); (try have L1 : w.heap.size < w1.heap.size := by omega); have B1 : Below w.heap.size w w1 := bel_tr (by first | (go_grown; done) | (go_split_ands; assumption)) hb1)
        go_wp2_with fail
        (refine (asB (l18Ok_any _ _ _ ts _ (hB.below (by first | (go_grown; done) | (go_split_ands; assumption)))) G1.out).mono ?_; rintro e w2 ⟨rfl, hb2⟩; obtain ⟨hc2, hf2⟩ := bcell hb2; have hz2 := hb2.size; (try simp only [World.size_alloc] at hz2); (try simp only [World.size_setCell] at hz2); (try simp only [World.size_drew] at hz2); (try have L2 : w.heap.size < w2.heap.size := by omega); have B2 : Below w.heap.size w w2 := bel_tr (by first | (go_grown; done) | (go_split_ands; assumption)) hb2)
        go_wp2_with fail
        go_ret2
        exact BtC.bad R.out (by omega) B2
      · have hts : ts ≠ [] := by rintro rfl; have := M.out; simp at this; omega
        have hz0 : ¬ (m : Int) = 0 := by omega
        have hz1 : ((m : Int) == 0) = false := by rw [beq_eq_false_iff_ne]; omega
        obtain ⟨u, hu⟩ : ∃ u, cntN (fun k => (nt xs k).Bad) n = u := ⟨_, rfl⟩
        have hbad := fun W hW => l18Bad_any A n c xs W hW
        rw [hu] at hbad
        have hun : u ≤ n := by rw [← hu]; exact cntN_le _ _
        rcases Nat.eq_zero_or_pos u with y | y
        · have R := Lib.hid (show btC xs ts = 3 by
            rw [btC, if_pos g, if_pos g1, if_neg hts, if_neg]
            rw [← cnt_any L.out, hu, y]; simp)
          subst y
          have G := Lib.hid g; have G1 := Lib.hid g1; clear g g1 hu hts
          go_enter Try.func42, Try.ntmps42
          go_wp2_with fail
          (refine (asB (l18Ok_any _ _ _ xs _ (hA.below (by first | (go_grown; done) | (go_split_ands; assumption)))) G.out).mono ?_; rintro e w1 ⟨rfl, hb1⟩; obtain ⟨hc1, hf1⟩ := bcell hb1; have hz1 := hb1.size; (try simp only [World.size_alloc] at hz1); (try simp only [World.size_setCell] at hz1); (try simp only [World.size_drew] at hz1); (try have L1 : w.heap.size < w1.heap.size := by omega); have B1 : Below w.heap.size w w1 := bel_tr (by first | (go_grown; done) | (go_split_ands; assumption)) hb1)
          go_wp2_with fail
          (refine (asB (l18Ok_any _ _ _ ts _ (hB.below (by first | (go_grown; done) | (go_split_ands; assumption)))) G1.out).mono ?_; rintro e w2 ⟨rfl, hb2⟩; obtain ⟨hc2, hf2⟩ := bcell hb2; have hz2 := hb2.size; (try simp only [World.size_alloc] at hz2); (try simp only [World.size_setCell] at hz2); (try simp only [World.size_drew] at hz2); (try have L2 : w.heap.size < w2.heap.size := by omega); have B2 : Below w.heap.size w w2 := bel_tr (by first | (go_grown; done) | (go_split_ands; assumption)) hb2)
          go_wp2_with fail
          (refine (hbad _ (hA.below (by first | (go_grown; done) | (go_split_ands; assumption)))).mono ?_; rintro e w3 ⟨rfl, hb3⟩; obtain ⟨hc3, hf3⟩ := bcell hb3; have hz3 := hb3.size; (try simp only [World.size_alloc] at hz3); (try simp only [World.size_setCell] at hz3); (try simp only [World.size_drew] at hz3); (try have L3 : w.heap.size < w3.heap.size := by omega); have B3 : Below w.heap.size w w3 := bel_tr (by first | (go_grown; done) | (go_split_ands; assumption)) hb3)
          go_wp2_with fail
          go_ret2
          exact BtC.bad R.out (by omega) B3
        · have R := Lib.hid (show btC xs ts = 0 by
            rw [btC, if_pos g, if_pos g1, if_neg hts, if_pos]
            rw [← cnt_any L.out, hu]; exact y)
          have hy0 : ¬ (u : Int) = 0 := by omega
          have hy1 : ((u : Int) == 0) = false := by rw [beq_eq_false_iff_ne]; omega
          have E := Lib.hid (show btV xs ts = (minAt (worstN ts (posL xs)) m : Nat) by rw [btV, R.out, if_pos rfl, M.out])
          have G := Lib.hid g; have G1 := Lib.hid g1; clear g g1 hu hts
          have hp60 : (posL xs).length ≤ 60 := Nat.le_trans (List.length_filter_le _ _) (inL_len _)
          have hpos := fun W hW => l18Possible_any A n c xs W hW
          obtain ⟨p, hp⟩ : ∃ p, posL xs = p := ⟨_, rfl⟩
          rw [hp] at E hp60 hpos
          clear hp
          go_enter Try.func42, Try.ntmps42
          go_wp2_with fail
          (refine (asB (l18Ok_any _ _ _ xs _ (hA.below (by first | (go_grown; done) | (go_split_ands; assumption)))) G.out).mono ?_; rintro e w1 ⟨rfl, hb1⟩; obtain ⟨hc1, hf1⟩ := bcell hb1; have hz1 := hb1.size; (try simp only [World.size_alloc] at hz1); (try simp only [World.size_setCell] at hz1); (try simp only [World.size_drew] at hz1); (try have L1 : w.heap.size < w1.heap.size := by omega); have B1 : Below w.heap.size w w1 := bel_tr (by first | (go_grown; done) | (go_split_ands; assumption)) hb1)
          go_wp2_with fail
          (refine (asB (l18Ok_any _ _ _ ts _ (hB.below (by first | (go_grown; done) | (go_split_ands; assumption)))) G1.out).mono ?_; rintro e w2 ⟨rfl, hb2⟩; obtain ⟨hc2, hf2⟩ := bcell hb2; have hz2 := hb2.size; (try simp only [World.size_alloc] at hz2); (try simp only [World.size_setCell] at hz2); (try simp only [World.size_drew] at hz2); (try have L2 : w.heap.size < w2.heap.size := by omega); have B2 : Below w.heap.size w w2 := bel_tr (by first | (go_grown; done) | (go_split_ands; assumption)) hb2)
          go_wp2_with fail
          (refine (hbad _ (hA.below (by first | (go_grown; done) | (go_split_ands; assumption)))).mono ?_; rintro e w3 ⟨rfl, hb3⟩; obtain ⟨hc3, hf3⟩ := bcell hb3; have hz3 := hb3.size; (try simp only [World.size_alloc] at hz3); (try simp only [World.size_setCell] at hz3); (try simp only [World.size_drew] at hz3); (try have L3 : w.heap.size < w3.heap.size := by omega); have B3 : Below w.heap.size w w3 := bel_tr (by first | (go_grown; done) | (go_split_ands; assumption)) hb3)
          go_wp2_with fail
          refine (hpos _ (hA.below B3)).mono ?_; rintro e w4 ⟨AL, np, cp, rfl, hS4, hz4, hf4, hb4⟩
          have B4 : Below w.heap.size w w4 := bel_tr B3 hb4
          have PL := Lib.hid hS4.len
          have HS4 := Lib.hid hS4
          have hnp : np ≤ 60 := by rw [← hS4.len]; exact hp60
          clear hS4 hz4 hf4 hpos hbad hb1 hb2 hb3 hb4 hc1 hf1 hc2 hf2 hc3 hf3
          obtain ⟨f, hf⟩ : ∃ f, worstN ts p = f := ⟨_, rfl⟩
          have HF := Lib.hid hf
          rw [hf] at E
          clear hf
          go_wp2_with fail
          go_loopw [9, 7, 8] (fun i b l wr => ∃ (k : Nat) (bv lv : Int), k ≤ m ∧ i = .int .i64 k ∧ b = .int .i64 bv ∧ l = .int .i64 lv ∧ BestS f k bv lv ∧ Below w4.heap.size w4 wr) (fun i _ _ _ => m - (intOf i).toNat)
          case atStart => exact ⟨0, -1, 0, Nat.zero_le _, rfl, rfl, rfl, .inl ⟨rfl, rfl, rfl⟩, Below.refl _ _⟩
          case round =>
            obtain ⟨k, bv, lv, hk, rfl, rfl, rfl, hbs, hI⟩ := hrel
            have HBS := Lib.hid hbs; clear hbs
            obtain ⟨wo, rfl⟩ : ∃ wo : World, wo = wr := ⟨_, rfl⟩
            have hIw : Below w.heap.size w wo := B4.trans (hI.mono B4.size)
            by_cases hlt : k < m
            · have FK := Lib.hid (show f k = max (hasN p (nt ts k) np) (np - hasN p (nt ts k) np) by rw [← HF.out, worstN, PL.out])
              go_wp2
              go_loopw [11, 10] (fun j v wr => ∃ (q s : Nat), q ≤ np ∧ j = .int .i64 q ∧ v = .int .i64 s ∧ s = hasN p (nt ts k) q ∧ Below wo.heap.size wo wr) (fun j _ _ => np - (intOf j).toNat)
              case atStart => exact ⟨0, 0, Nat.zero_le _, rfl, rfl, rfl, Below.refl _ _⟩
              case round =>
                obtain ⟨q, s, hq, rfl, rfl, hs, hJ⟩ := hrel
                have hsq : s ≤ q := by rw [hs]; exact hasN_le _ _ _
                have S := Lib.hid hs; clear hs
                obtain ⟨wc, rfl⟩ : ∃ wc : World, wc = wr := ⟨_, rfl⟩
                have hJw : Below w.heap.size w wc := hIw.trans (hJ.mono hIw.size)
                have hJ4 : Below w4.heap.size w4 wc := hI.trans (hJ.mono hI.size)
                by_cases hqt : q < np
                · obtain ⟨b, off, rfl, hb, hc⟩ := (hB.below hJw).cell (by omega)
                  obtain ⟨hq0, hq1, hq2, hq3⟩ := hc k hlt
                  clear hc
                  obtain ⟨b2, off2, rfl, hb2, hc2⟩ := (HS4.out.below hJ4).cell (by omega)
                  obtain ⟨hr0, hr1⟩ := hc2 q hqt
                  clear hc2
                  rcases Bool.eq_false_or_eq_true (hasB (nt ts k) (nt p q)) with h | h
                  · have Q := Lib.hid (hasN_yes h)
                    have H := Lib.hid h; clear h
                    go_wp2_with fail
                    first | go_region_with ((go_at_call 77; refine (asB (l18Has_any (nt ts k) (nt p q) _) H.out).mono ?_; rintro e w5 ⟨rfl, hb5⟩)) | fail
                    all_goals
                      have T5 : Below wc.heap.size wc w5 := by first | exact bel_tr (Below.refl _ _) hb5 | exact bel_tr (below_drew (Below.refl _ _)) hb5 | exact bel_tr (below_drew (below_drew (Below.refl _ _))) hb5
                      go_wp2_with fail
                      go_roundw
                      case rel => exact ⟨q + 1, s + 1, by omega, by go_num, by go_num, by rw [Q.out, ← S.out], by first | exact bel_tr hJ T5 | exact below_drew (bel_tr hJ T5)⟩
                      case measure => simp [intOf]; omega
                  · have Q := Lib.hid (hasN_no h)
                    have H := Lib.hid h; clear h
                    go_wp2_with fail
                    first | go_region_with ((go_at_call 77; refine (asB (l18Has_any (nt ts k) (nt p q) _) H.out).mono ?_; rintro e w5 ⟨rfl, hb5⟩)) | fail
                    all_goals
                      have T5 : Below wc.heap.size wc w5 := by first | exact bel_tr (Below.refl _ _) hb5 | exact bel_tr (below_drew (Below.refl _ _)) hb5 | exact bel_tr (below_drew (below_drew (Below.refl _ _))) hb5
                      go_wp2_with fail
                      go_roundw
                      case rel => exact ⟨q + 1, s, by omega, by go_num, rfl, by rw [Q.out, ← S.out], by first | exact bel_tr hJ T5 | exact below_drew (bel_tr hJ T5)⟩
                      case measure => simp [intOf]; omega
                · obtain rfl : np = q := by omega
                  have X := Lib.hid (show max (s : Int) ((np : Int) - (s : Int)) = (f k : Nat) by rw [max_nat hsq, FK.out, ← S.out])
                  have hfk : f k ≤ np := by rw [FK.out, ← S.out]; omega
                  have hJK : Below w4.heap.size w4 wc := hJ4
                  obtain ⟨x, hx⟩ : ∃ x, f k = x := ⟨_, rfl⟩
                  rw [hx] at X hfk
                  rcases HBS.out with ⟨rfl, rfl, rfl⟩ | ⟨hk0, hbv, hlv⟩
                  · have Y := Lib.hid (show BestS f (0 + 1) 0 x from .inr ⟨by omega, rfl, by rw [minAt_one, hx]⟩)
                    clear hx
                    go_wp2_with fail
                    refine (l00Max_any _ _ _).mono ?_; rw [X.out]; rintro e w5 ⟨rfl, rfl⟩
                    go_wp2_with fail
                    go_roundw
                    case rel => exact ⟨0 + 1, 0, x, by omega, by go_num, rfl, rfl, Y.out, hJK⟩
                    case measure => simp [intOf]; omega
                  · have hml := minAt_lt (f := f) hk0
                    by_cases hle : x < f (minAt f k)
                    · have Y := Lib.hid (show BestS f (k + 1) k x from .inr ⟨by omega, by rw [minAt_yes hk0 (by rw [hx]; exact hle)], by rw [minAt_yes hk0 (by rw [hx]; exact hle), hx]⟩)
                      obtain ⟨a, ha⟩ : ∃ a, minAt f k = a := ⟨_, rfl⟩
                      obtain ⟨y, hy⟩ : ∃ y, f (minAt f k) = y := ⟨_, rfl⟩
                      rw [hy] at hle hlv; rw [ha] at hbv hml
                      subst hbv; subst hlv
                      clear hx hy ha
                      have hle' : (x : Int) < (y : Int) := by omega
                      go_wp2_with fail
                      refine (l00Max_any _ _ _).mono ?_; rw [X.out]; rintro e w5 ⟨rfl, rfl⟩
                      go_wp2_with fail
                      go_roundw
                      case rel => exact ⟨k + 1, k, x, by omega, by go_num, rfl, rfl, Y.out, hJK⟩
                      case measure => simp [intOf]; omega
                    · have Y := Lib.hid (show BestS f (k + 1) bv lv from .inr ⟨by omega, by rw [minAt_no hk0 (by rw [hx]; exact hle), hbv], by rw [minAt_no hk0 (by rw [hx]; exact hle), hlv]⟩)
                      obtain ⟨a, ha⟩ : ∃ a, minAt f k = a := ⟨_, rfl⟩
                      obtain ⟨y, hy⟩ : ∃ y, f (minAt f k) = y := ⟨_, rfl⟩
                      rw [hy] at hle hlv; rw [ha] at hbv hml
                      subst hbv; subst hlv
                      clear hx hy ha
                      have hle' : ¬ (x : Int) < (y : Int) := by omega
                      go_wp2_with fail
                      refine (l00Max_any _ _ _).mono ?_; rw [X.out]; rintro e w5 ⟨rfl, rfl⟩
                      go_wp2_with fail
                      go_roundw
                      case rel => exact ⟨k + 1, a, y, by omega, by go_num, rfl, rfl, Y.out, hJK⟩
                      case measure => simp [intOf]; omega
            · obtain rfl : m = k := by omega
              rcases HBS.out with ⟨h0, _, _⟩ | ⟨_, hbv, _⟩
              · omega
              · have V := Lib.hid (show btV xs ts = bv by rw [E.out, hbv])
                clear hbv
                go_wp2
                go_ret2
                exact BtC.mk V.out R.out hIw
    · have R := Lib.hid (show btC xs ts = 1 by rw [btC, if_pos g, g1]; rfl)
      have G := Lib.hid g; have G1 := Lib.hid g1; clear g g1
      go_enter Try.func42, Try.ntmps42
      go_wp2_with fail
      (refine (asB (l18Ok_any _ _ _ xs _ (hA.below (by first | (go_grown; done) | (go_split_ands; assumption)))) G.out).mono ?_; rintro e w1 ⟨rfl, hb1⟩; obtain ⟨hc1, hf1⟩ := bcell hb1; have hz1 := hb1.size; (try simp only [World.size_alloc] at hz1); (try simp only [World.size_setCell] at hz1); (try simp only [World.size_drew] at hz1); (try have L1 : w.heap.size < w1.heap.size := by omega); have B1 : Below w.heap.size w w1 := bel_tr (by first | (go_grown; done) | (go_split_ands; assumption)) hb1)
      go_wp2_with fail
      (refine (asB (l18Ok_any _ _ _ ts _ (hB.below (by first | (go_grown; done) | (go_split_ands; assumption)))) G1.out).mono ?_; rintro e w2 ⟨rfl, hb2⟩; obtain ⟨hc2, hf2⟩ := bcell hb2; have hz2 := hb2.size; (try simp only [World.size_alloc] at hz2); (try simp only [World.size_setCell] at hz2); (try simp only [World.size_drew] at hz2); (try have L2 : w.heap.size < w2.heap.size := by omega); have B2 : Below w.heap.size w w2 := bel_tr (by first | (go_grown; done) | (go_split_ands; assumption)) hb2)
      go_wp2_with fail
      go_ret2
      exact BtC.bad R.out (by omega) B2
  · have R := Lib.hid (show btC xs ts = 1 by rw [btC, g]; rfl)
    have G := Lib.hid g; clear g
    go_enter Try.func42, Try.ntmps42
    go_wp2_with fail
    (refine (asB (l18Ok_any _ _ _ xs _ (hA.below (by first | (go_grown; done) | (go_split_ands; assumption)))) G.out).mono ?_; rintro e w1 ⟨rfl, hb1⟩; obtain ⟨hc1, hf1⟩ := bcell hb1; have hz1 := hb1.size; (try simp only [World.size_alloc] at hz1); (try simp only [World.size_setCell] at hz1); (try simp only [World.size_drew] at hz1); (try have L1 : w.heap.size < w1.heap.size := by omega); have B1 : Below w.heap.size w w1 := bel_tr (by first | (go_grown; done) | (go_split_ands; assumption)) hb1)
    go_wp2_with fail
    go_ret2
    exact BtC.bad R.out (by omega) B1
end Go.Proofs.Ytmapjepdcbpalaa
