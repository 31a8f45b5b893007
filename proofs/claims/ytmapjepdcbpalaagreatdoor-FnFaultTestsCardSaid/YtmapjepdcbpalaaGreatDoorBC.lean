/- The program's divided, badCode and causesIn. -/
import Derived.Test.YtmapjepdcbpalaaGreatDoorBS
import Derived.Test.YtmapjepdcbpalaaGreatDoorBA
import Derived.Test.YtmapjepdcbpalaaGreatDoorOBatch
import Derived.Test.YtmapjepdcbpalaaGreatDoorMBatch
import Derived.Test.YtmapjepdcbpalaaGreatDoorCp2
namespace Go.Proofs.YtmapjepdcbpalaaGreatDoor
open Go.RowKit
set_option linter.unusedVariables false

theorem Batch.at_one (r : Batch) (i : Nat) : (r.at i).oneCell' = true := by unfold Batch.at; split <;> (try split) <;> (try split) <;> rfl
theorem info_Batch' : (Tryz.prog.info? 42).map (fun i => (i.zero, i.size, i.bytes)) = some (some (.agg #[.int .i64 0, .int .i64 0, .int .i64 0, .bool false]), 4, 32) := by kernel_rfl
theorem RowFBatch.of_cells {w : World} {q n : Nat} {xs : List Batch} (hq : q < w.heap.size) (hf : ∀ o, w.frozen? ⟨q, o, none⟩ = false) (h : CellsAt w q 0 (n * 4) (fun t => (nt xs (t / 4)).at (t % 4))) : RowFBatch w q n (nt xs) :=
  ⟨hq, fun j hj => by
    have c : ∀ i, i < 4 → w.cell? ⟨q, 0 + j * 4 + i, none⟩ = some ((nt xs j).at i) := fun i hi => by
      have h1 : w.cell? ⟨q, 0 + (j * 4 + i), none⟩ = some ((nt xs ((j * 4 + i) / 4)).at ((j * 4 + i) % 4)) := h (j * 4 + i) (by omega)
      rw [show (j * 4 + i) / 4 = j by omega, show (j * 4 + i) % 4 = i by omega, ← Nat.add_assoc] at h1
      exact h1
    simp only [Nat.zero_add] at c
    exact ⟨c 0 (by omega), c 1 (by omega), c 2 (by omega), c 3 (by omega)⟩, hf⟩
/-- A row of batches that a call has made. -/
def OwnRB (l : List Batch) (w : World) (e : Ending) (w' : World) : Prop :=
  ∃ q cap, e = .returned (.slice (some ⟨q, 0, none⟩) l.length cap) ∧ w.heap.size ≤ q ∧ l.length ≤ cap ∧ RowFBatch w' q l.length (nt l) ∧ Below w.heap.size w w'
set_option maxRecDepth 100000 in
theorem cloneBatch_any (A : Option Addr) (n c : Nat) (xs : List Batch) (w : World) (hA : BatchS w A n xs) (h0 : 0 < n) :
    Calls Tryz.prog 71 #[.slice A n c] w
      fun e w' => ∃ q cap, e = .returned (.slice (some ⟨q, 0, none⟩) n cap) ∧ w.heap.size ≤ q ∧ n ≤ cap ∧ RowFBatch w' q n (nt xs) ∧ Below w.heap.size w w' := by
  have hn := hA.bound
  obtain ⟨b, off, rfl, hb, hc⟩ := hA.cell h0
  have HC := Lib.hid (BatchS.cellsAt hc); clear hc
  have HO := Lib.hid (World.ownsRow_made (base := w.heap.size) (e := 42) (size := 4) w #[] 0 (Nat.le_refl _) (by simp [maxLen]) (by simp))
  have HC2 := Lib.hid (show CellsAt (w.alloc (.cells #[] 42)) b off (n * 4) (fun t => (nt xs (t / 4)).at (t % 4)) from fun t ht => (((Below.refl w.heap.size w).alloc (Nat.le_refl _) _).cell (p := ⟨b, off + t, none⟩) hb).trans (HC.out t ht))
  have he : ∀ W : World, (binOp .eql 24 (.slice (some ⟨b, off, none⟩) n c) (.slice none 0 0)).run Tryz.prog W = .ok (.bool false) W := fun _ => rfl
  go_enter Tryz.func71, Tryz.ntmps71
  go_wp2_with (at_builtin; refine wpList_appAllC _ rfl (.tmp 5) (.tmp 6) 24 rfl w.heap.size 42 _ 4 32 Tryz.underlying24 info_Batch' rfl (by omega) _ HO.out rfl b off n c _ rfl HC2.out (fun t => Batch.at_one _ _) h0 hn (by omega) (by simp) (fun k hk => by simp [Value.ownBlock] at hk; omega) ?_; intro q cap w2 hqc hq1 hq2 hq3 hq4 hq5 hq6)
  have h5 := hq5 (Nat.le_refl w.heap.size) (show Below w.heap.size w (w.alloc (.cells #[] 42)) from (Below.refl _ _).alloc (Nat.le_refl _) _)
  go_ret
  exact ⟨q, cap, rfl, hq1, hqc, RowFBatch.of_cells hq2 hq4 hq3, h5⟩

theorem badB_any (b : Batch) (w : World) : Calls Tryz.prog 68 #[.agg #[.int .i64 b.Clay, .int .i64 b.Mould, .int .i64 b.Chamber, .bool b.Bad]] w fun e w' => e = .returned (.bool b.Bad) ∧ Below w.heap.size w w' := by
  go_enter Tryz.func68, Tryz.ntmps68
  go_wp2
  go_ret
  exact ⟨rfl, by go_grown⟩
theorem goodB_any (b : Batch) (w : World) : Calls Tryz.prog 69 #[.agg #[.int .i64 b.Clay, .int .i64 b.Mould, .int .i64 b.Chamber, .bool b.Bad]] w fun e w' => e = .returned (.bool (!b.Bad)) ∧ Below w.heap.size w w' := by
  go_enter Tryz.func69, Tryz.ntmps69
  go_wp2
  go_ret
  exact ⟨rfl, by go_grown⟩
theorem badC_any (b : Batch) (w : World) : Calls Tryz.prog 46 #[.agg #[.int .i64 b.Clay, .int .i64 b.Mould, .int .i64 b.Chamber, .bool b.Bad]] w fun e w' => e = .returned (.bool b.Bad) ∧ Below w.heap.size w w' := by
  go_enter Tryz.func46, Tryz.ntmps46
  go_wp2
  go_ret
  exact ⟨rfl, by go_grown⟩
theorem eg_badB : ∀ args w, (callFunc 68 args).run Tryz.prog w = .ok (.enter 68 args) w := enters_of Tryz.func68 (by kernel_rfl) rfl
theorem eg_goodB : ∀ args w, (callFunc 69 args).run Tryz.prog w = .ok (.enter 69 args) w := enters_of Tryz.func69 (by kernel_rfl) rfl
theorem eg_badC : ∀ args w, (callFunc 46 args).run Tryz.prog w = .ok (.enter 46 args) w := enters_of Tryz.func46 (by kernel_rfl) rfl

theorem implBadCode_any (A : Option Addr) (n c : Nat) (xs : List Batch) (w : World) (hA : BatchS w A n xs) :
    Calls Tryz.prog 24 #[.slice A n c] w (IsCode xs w) := by
  have hp : ∀ W : World, PredB 46 #[] #[] Batch.enc (fun b => b.Bad) xs W := fun W W' x hx _ => badC_any x W'
  have HP := Lib.hid hp; clear hp
  rcases Bool.eq_false_or_eq_true (batchesOk xs) with g | g
  · rcases Bool.eq_false_or_eq_true (xs.any fun b => b.Bad) with g1 | g1
    · have R := Lib.hid (show codeB xs = 0 by rw [codeB, if_pos g, if_pos g1])
      have G := Lib.hid g; have G1 := Lib.hid g1; clear g g1
      go_enter Tryz.func24, Tryz.ntmps24
      go_wp2_with fail
      (refine (asB (implValidBatches_any _ _ _ xs _ (hA.below (by first | (go_grown; done) | (go_split_ands; assumption)))) G.out).mono ?_; rintro e w1 ⟨rfl, hb1⟩; obtain ⟨hc1, hf1⟩ := bcell hb1; have hz1 := hb1.size; (try simp only [World.size_alloc] at hz1); (try simp only [World.size_setCell] at hz1); (try simp only [World.size_drew] at hz1); (try have L1 : w.heap.size < w1.heap.size := by omega); have B1 : Below w.heap.size w w1 := bel_tr (by first | (go_grown; done) | (go_split_ands; assumption)) hb1)
      go_wp2_with fail
      (refine (asB (conFBatch_any _ 46 _ _ eg_badC _ _ _ xs _ (hA.below (by first | (go_grown; done) | (go_split_ands; assumption))) (HP.out _)) G1.out).mono ?_; rintro e w2 ⟨rfl, hb2⟩; obtain ⟨hc2, hf2⟩ := bcell hb2; have hz2 := hb2.size; (try simp only [World.size_alloc] at hz2); (try simp only [World.size_setCell] at hz2); (try simp only [World.size_drew] at hz2); (try have L2 : w.heap.size < w2.heap.size := by omega); have B2 : Below w.heap.size w w2 := bel_tr (by first | (go_grown; done) | (go_split_ands; assumption)) hb2)
      go_wp2_with fail
      go_ret
      exact IsCode.mk R.out B2
    · have R := Lib.hid (show codeB xs = 3 by rw [codeB, if_pos g, g1]; rfl)
      have G := Lib.hid g; have G1 := Lib.hid g1; clear g g1
      go_enter Tryz.func24, Tryz.ntmps24
      go_wp2_with fail
      (refine (asB (implValidBatches_any _ _ _ xs _ (hA.below (by first | (go_grown; done) | (go_split_ands; assumption)))) G.out).mono ?_; rintro e w1 ⟨rfl, hb1⟩; obtain ⟨hc1, hf1⟩ := bcell hb1; have hz1 := hb1.size; (try simp only [World.size_alloc] at hz1); (try simp only [World.size_setCell] at hz1); (try simp only [World.size_drew] at hz1); (try have L1 : w.heap.size < w1.heap.size := by omega); have B1 : Below w.heap.size w w1 := bel_tr (by first | (go_grown; done) | (go_split_ands; assumption)) hb1)
      go_wp2_with fail
      (refine (asB (conFBatch_any _ 46 _ _ eg_badC _ _ _ xs _ (hA.below (by first | (go_grown; done) | (go_split_ands; assumption))) (HP.out _)) G1.out).mono ?_; rintro e w2 ⟨rfl, hb2⟩; obtain ⟨hc2, hf2⟩ := bcell hb2; have hz2 := hb2.size; (try simp only [World.size_alloc] at hz2); (try simp only [World.size_setCell] at hz2); (try simp only [World.size_drew] at hz2); (try have L2 : w.heap.size < w2.heap.size := by omega); have B2 : Below w.heap.size w w2 := bel_tr (by first | (go_grown; done) | (go_split_ands; assumption)) hb2)
      go_wp2_with fail
      go_ret
      exact IsCode.mk R.out B2
  · have R := Lib.hid (show codeB xs = 1 by rw [codeB, g]; rfl)
    have G := Lib.hid g; clear g
    go_enter Tryz.func24, Tryz.ntmps24
    go_wp2_with fail
    (refine (asB (implValidBatches_any _ _ _ xs _ (hA.below (by first | (go_grown; done) | (go_split_ands; assumption)))) G.out).mono ?_; rintro e w1 ⟨rfl, hb1⟩; obtain ⟨hc1, hf1⟩ := bcell hb1; have hz1 := hb1.size; (try simp only [World.size_alloc] at hz1); (try simp only [World.size_setCell] at hz1); (try simp only [World.size_drew] at hz1); (try have L1 : w.heap.size < w1.heap.size := by omega); have B1 : Below w.heap.size w w1 := bel_tr (by first | (go_grown; done) | (go_split_ands; assumption)) hb1)
    go_wp2_with fail
    go_ret
    exact IsCode.mk R.out B1

/-- The bad and the good batches: two rows of the call's own. -/
def Divided (xs : List Batch) (w : World) (e : Ending) (w' : World) : Prop :=
  ∃ q cap q2 cap2, e = .returned (.tuple #[.slice (some ⟨q, 0, none⟩) (badsOf xs).length cap, .slice (some ⟨q2, 0, none⟩) (goodsOf xs).length cap2]) ∧ RowFBatch w' q (badsOf xs).length (nt (badsOf xs)) ∧ RowFBatch w' q2 (goodsOf xs).length (nt (goodsOf xs)) ∧ Below w.heap.size w w'

/-- A row of causes that a call has made. -/
def OwnRC (l : List Cause) (w : World) (e : Ending) (w' : World) : Prop :=
  ∃ q cap, e = .returned (.slice (some ⟨q, 0, none⟩) l.length cap) ∧ w.heap.size ≤ q ∧ l.length ≤ cap ∧ RowFCause w' q l.length (nt l) ∧ Below w.heap.size w w'
theorem notGood (b : Batch) : (!(!b.Bad)) = b.Bad := by cases b.Bad <;> rfl
set_option maxHeartbeats 2000000 in
theorem divided_any (A : Option Addr) (n c : Nat) (xs : List Batch) (w : World) (hA : BatchS w A n xs) (h0 : 0 < n) :
    Calls Tryz.prog 47 #[.slice A n c] w (Divided xs w) := by
  have hn := hA.bound
  have L := Lib.hid hA.len
  have EB := Lib.hid (show (xs.filter fun x => !(fun b : Batch => !b.Bad) x) = badsOf xs by rw [badsOf]; congr 1; funext b; exact notGood b)
  have EG := Lib.hid (show (xs.filter fun x => !(fun b : Batch => b.Bad) x) = goodsOf xs from rfl)
  have P1 : ∀ (W : World) (g : Nat), PredGBatch 69 #[] #[] (fun b => !b.Bad) xs W g := fun W g W' x hx _ => goodB_any x W'
  have P2 : ∀ (W : World) (g : Nat), PredGBatch 68 #[] #[] (fun b => b.Bad) xs W g := fun W g W' x hx _ => badB_any x W'
  have HP1 := Lib.hid P1; have HP2 := Lib.hid P2; clear P1 P2
  go_enter Tryz.func47, Tryz.ntmps47
  go_wp2_with fail
  refine (cloneBatch_any _ _ _ xs _ hA h0).mono ?_; rintro e w1 ⟨q, cap, rfl, hq, hCAP1, hR1, hb1⟩
  have HR1 := Lib.hid hR1; clear hR1
  have hA1 := Lib.hid (hA.below hb1)
  have hql := HR1.out.lt
  have hcp : n ≤ n := Nat.le_refl _
  have hz1 := hb1.size
  go_wp2_with fail
  refine (delFBatch_any _ 69 _ _ eg_goodB q n cap xs _ L.out hn hCAP1 HR1.out (HP1.out _ _)).mono ?_; rintro e w2 ⟨rfl, hR2, hg2⟩
  rw [EB.out] at *
  have HR2 := Lib.hid hR2; clear hR2
  have hB2 : Below w.heap.size w w2 := below_grown hb1 hg2 hz1 (fun k e => by simp only [Option.some.injEq] at e; omega)
  have hA2 := Lib.hid (hA.below hB2)
  have hz2 := hg2.size
  have hq2l := HR2.out.lt
  go_wp2_with fail
  refine (cloneBatch_any _ _ _ xs _ hA2.out h0).mono ?_; rintro e w3 ⟨q3, cap3, rfl, hq3, hCAP3, hR3, hb3⟩
  have HR3 := Lib.hid hR3; clear hR3
  have hz3 := hb3.size
  have hq3l := HR3.out.lt
  have HR2' := Lib.hid (HR2.out.below hb3)
  go_wp2_with fail
  refine (delFBatch_any _ 68 _ _ eg_badB q3 n cap3 xs _ L.out hn hCAP3 HR3.out (HP2.out _ _)).mono ?_; rintro e w4 ⟨rfl, hR4, hg4⟩
  rw [EG.out] at *
  have hB4 : Below w2.heap.size w2 w4 := below_grown hb3 hg4 hz3 (fun k e => by simp only [Option.some.injEq] at e; omega)
  go_wp2_with fail
  go_ret2
  exact ⟨q, cap, q3, cap3, rfl, HR2.out.below hB4, hR4, hB2.trans (hB4.mono (by omega))⟩

theorem flat_step {xs : List Batch} {k : Nat} (h : k < xs.length) : (xs.take (k + 1)).flatMap causesL = (xs.take k).flatMap causesL ++ causesL (nt xs k) := by
  rw [take_snoc_nt h, List.flatMap_append]; simp
theorem flat_len (xs : List Batch) (k : Nat) : ((xs.take k).flatMap causesL).length ≤ 3 * k := by
  have : ∀ l : List Batch, (l.flatMap causesL).length = 3 * l.length := fun l => by
    induction l with
    | nil => rfl
    | cons a l ih => rw [List.flatMap_cons, List.length_append, ih, List.length_cons]; simp [causesL]; omega
  rw [this, List.length_take]; omega
theorem compactL_len (l : List Cause) : (compactL l).length ≤ l.length := by
  have h := keptL_compact l (Nat.le_refl l.length)
  rw [List.take_length] at h
  rw [← h]; exact keptL_len _ _ _
theorem causes_lie {w : World} {q : Nat} {l : List Cause} {n : Nat} (h : CauseS w (some ⟨q, 0, none⟩) n l) (hn : 0 < n) : ∀ j, j < n → (nt l j).lies w q (0 + j * 2) := by
  obtain ⟨b, off, e, hb, hc⟩ := h.cell hn
  simp only [Option.some.injEq, Addr.mk.injEq, and_true] at e
  obtain ⟨rfl, rfl⟩ := e
  exact hc
set_option maxHeartbeats 4000000 in
theorem causesIn_any (A : Option Addr) (n c : Nat) (xs : List Batch) (w : World) (hA : BatchS w A n xs) (h40 : n ≤ 40) (hok : ∀ b ∈ xs, b.okB = true) :
    Calls Tryz.prog 17 #[.slice A n c] w (OwnRC (inL xs) w) := by
  have hn := hA.bound
  have L := Lib.hid hA.len
  have OK := Lib.hid hok; clear hok
  go_enter Tryz.func17, Tryz.ntmps17
  go_wp2
  go_loopw [3, 9] (fun v i wr => ∃ k : Nat, k ≤ n ∧ i = .int .i64 k ∧ OwnC wr w.heap.size v ((xs.take k).flatMap causesL) ∧ Below w.heap.size w wr) (fun _ i _ => n - (intOf i).toNat)
  case atStart => exact ⟨0, Nat.zero_le _, rfl, OwnC.made' (Nat.le_refl _) rfl, (Below.refl _ _).alloc (Nat.le_refl _) _⟩
  case round =>
    obtain ⟨k, hk, rfl, hO, hB⟩ := hrel
    have HO := Lib.hid hO; clear hO
    have hz := hB.size
    obtain ⟨wc, rfl⟩ : ∃ wc : World, wc = wr := ⟨_, rfl⟩
    by_cases hlt : k < n
    · obtain ⟨b, off, rfl, hb, hc⟩ := (hA.below hB).cell (by omega)
      obtain ⟨hq0, hq1, hq2, hq3⟩ := hc k hlt
      clear hc
      have HL := Lib.hid (show ((xs.take k).flatMap causesL).length ≤ 120 by have := flat_len xs k; omega)
      have Q := Lib.hid (flat_step (xs := xs) (k := k) (by rw [L.out]; exact hlt))
      go_wp2_with fail
      refine (causes_any (nt xs k) _).mono ?_; rintro e w4 ⟨q, rfl, hS4, hb4⟩
      have T4 : Below wc.heap.size wc w4 := bel_tr (by first | (go_grown; done) | (go_split_ands; assumption)) hb4
      have HO4 := Lib.hid (HO.out.below T4)
      have HB4 := Lib.hid (hB.trans (T4.mono hz))
      have hz4 := T4.size
      have HS4 := Lib.hid (causes_lie hS4 (by omega)); clear hS4
      go_wp2_with (at_builtin; refine wpList_appCS _ rfl (.tmp 13) (.tmp 15) rfl w.heap.size _ _ HO4.out rfl q 0 3 3 (causesL (nt xs k)) rfl rfl HS4.out (by have := HL.out; omega) (by omega) ?_; intro v3 w3 hO3 hk3 hs3)
      have hB3 := hk3 (Nat.le_refl _) HB4.out
      go_roundw
      case rel => exact ⟨k + 1, by omega, by go_num, by rw [Q.out]; exact hO3, hB3⟩
      case measure => simp [intOf]; omega
    · obtain rfl : n = k := by omega
      have HM := Lib.hid (show ∀ c, c ∈ (xs.take n).flatMap causesL ↔ ∃ b ∈ xs, c ∈ causesL b by
        intro c; rw [List.take_of_length_le (by rw [L.out]; exact Nat.le_refl _), List.mem_flatMap])
      have hl120 : ((xs.take n).flatMap causesL).length ≤ 120 := by have := flat_len xs n; omega
      have HO5 := Lib.hid HO.out
      clear HO
      generalize (xs.take n).flatMap causesL = l at *
      obtain ⟨g, cap, rfl, hg, hcap, hR⟩ := HO5.out.row
      have HR := Lib.hid hR; clear hR HO5
      have hgl := HR.out.lt
      obtain ⟨m, hm⟩ : ∃ m, l.length = m := ⟨_, rfl⟩
      have M := Lib.hid hm
      rw [hm] at hcap HR hl120 ⊢
      clear hm
      go_wp2_with fail
      refine (sortC_any g m cap l _ M.out (by omega) HR.out).mono ?_; rintro e w4 ⟨rfl, l', hl', hp, hs, hR4, hg4⟩
      have E := Lib.hid (inL_of_sorted OK.out hs (fun c => by rw [hp.mem_iff]; exact HM.out c))
      have M2 := Lib.hid hl'
      have HR4 := Lib.hid hR4
      clear hs hp hR4 hl'
      have hz4 := hg4.size
      have hB4 : Below w.heap.size w w4 := below_grown hB hg4 hz (fun k e => by simp only [Option.some.injEq] at e; omega)
      go_wp2_with fail
      refine (compactC_any g m cap l' _ M2.out (by omega) hcap HR4.out).mono ?_; rintro e w5 ⟨rfl, hR5, hg5⟩
      have hB5 : Below w.heap.size w w5 := below_grown hB4 hg5 (by omega) (fun k e => by simp only [Option.some.injEq] at e; omega)
      have hcl := compactL_len l'
      rw [M2.out] at hcl
      rw [E.out] at *
      go_wp2_with fail
      go_ret
      exact ⟨g, cap, rfl, hg, by omega, hR5, hB5⟩
end Go.Proofs.YtmapjepdcbpalaaGreatDoor
