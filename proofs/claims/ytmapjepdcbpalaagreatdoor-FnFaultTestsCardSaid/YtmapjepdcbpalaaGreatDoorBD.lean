/- The program's CausesIn, CommonCauses, possibleCauses and PossibleCauses. -/
import Derived.Test.YtmapjepdcbpalaaGreatDoorBC
import Derived.Test.YtmapjepdcbpalaaGreatDoorBB
namespace Go.Proofs.YtmapjepdcbpalaaGreatDoor
open Go.RowKit
set_option linter.unusedVariables false

theorem okB_all {xs : List Batch} (h : batchesOk xs = true) : (∀ b ∈ xs, b.okB = true) ∧ xs.length ≤ 40 := by
  simp only [batchesOk, Bool.and_eq_true, decide_eq_true_eq] at h
  exact ⟨List.all_eq_true.1 h.1, h.2⟩
theorem bads_ok {xs : List Batch} (h : batchesOk xs = true) : (∀ b ∈ badsOf xs, b.okB = true) ∧ (badsOf xs).length ≤ 40 :=
  ⟨fun b hb => (okB_all h).1 b (List.mem_filter.1 hb).1, Nat.le_trans (List.length_filter_le _ _) (okB_all h).2⟩
theorem goods_len {xs : List Batch} (h : batchesOk xs = true) : (goodsOf xs).length ≤ 40 := Nat.le_trans (List.length_filter_le _ _) (okB_all h).2
theorem OwnRC.to {l l' : List Cause} {w w' : World} {q m cap : Nat} (hl : l = l') (hm : l'.length = m) (hq : w.heap.size ≤ q) (hcap : m ≤ cap) (hR : RowFCause w' q m (nt l')) (hb : Below w.heap.size w w') : OwnRC l w (.returned (.slice (some ⟨q, 0, none⟩) m cap)) w' := by
  subst hl; subst hm; exact ⟨q, cap, rfl, hq, hcap, hR, hb⟩
theorem CauseC.row' {l l' : List Cause} {code c' : Int} {w w' : World} {g n c : Nat} (h : RowFCause w' g n (nt l')) (e : l = l') (ec : code = c') (hl : l'.length = n) (hn : n ≤ 1048576) (hg : w.heap.size ≤ g) (hb : Below w.heap.size w w') : CauseC l code w (.returned (.tuple #[.slice (some ⟨g, 0, none⟩) n c, .int .i64 c'])) w' := by
  subst e; subst ec; exact CauseC.row h hl hn hg hb
set_option maxHeartbeats 1000000 in
theorem implCausesIn_any (A : Option Addr) (n c : Nat) (xs : List Batch) (w : World) (hA : BatchS w A n xs) :
    Calls Tryz.prog 6 #[.slice A n c] w (CauseC (ciL xs) (ciC xs) w) := by
  have hn := hA.bound
  rcases Bool.eq_false_or_eq_true (batchesOk xs) with g | g
  · have R := Lib.hid (show ciC xs = 0 by rw [ciC, if_pos g])
    have E := Lib.hid (show ciL xs = inL xs by rw [ciL, if_pos g])
    obtain ⟨hok, h40⟩ := okB_all g
    rw [hA.len] at h40
    have OK := Lib.hid hok
    have G := Lib.hid g; clear g hok
    go_enter Tryz.func6, Tryz.ntmps6
    go_wp2_with fail
    (refine (asB (implValidBatches_any _ _ _ xs _ (hA.below (by first | (go_grown; done) | (go_split_ands; assumption)))) G.out).mono ?_; rintro e w1 ⟨rfl, hb1⟩; obtain ⟨hc1, hf1⟩ := bcell hb1; have hz1 := hb1.size; (try simp only [World.size_alloc] at hz1); (try simp only [World.size_setCell] at hz1); (try simp only [World.size_drew] at hz1); (try have L1 : w.heap.size < w1.heap.size := by omega); have B1 : Below w.heap.size w w1 := bel_tr (by first | (go_grown; done) | (go_split_ands; assumption)) hb1)
    go_wp2_with fail
    (refine (causesIn_any _ _ _ xs _ (hA.below (by first | (go_grown; done) | (go_split_ands; assumption))) h40 OK.out).mono ?_; rintro e w2 ⟨q, cap, rfl, hq, hcap, hR, hb2⟩; obtain ⟨hc2, hf2⟩ := bcell hb2; have hz2 := hb2.size; (try simp only [World.size_alloc] at hz2); (try simp only [World.size_setCell] at hz2); (try simp only [World.size_drew] at hz2); (try have L2 : w.heap.size < w2.heap.size := by omega); have B2 : Below w.heap.size w w2 := bel_tr (by first | (go_grown; done) | (go_split_ands; assumption)) hb2)
    go_wp2_with fail
    go_ret2
    exact CauseC.row' hR E.out R.out rfl (Nat.le_trans (inL_len xs) (by omega)) (Nat.le_trans B1.size hq) B2
  · have R := Lib.hid (show ciC xs = 1 by rw [ciC, g]; rfl)
    have E := Lib.hid (show ciL xs = [] by rw [ciL, g]; rfl)
    have G := Lib.hid g; clear g
    go_enter Tryz.func6, Tryz.ntmps6
    go_wp2_with fail
    (refine (asB (implValidBatches_any _ _ _ xs _ (hA.below (by first | (go_grown; done) | (go_split_ands; assumption)))) G.out).mono ?_; rintro e w1 ⟨rfl, hb1⟩; obtain ⟨hc1, hf1⟩ := bcell hb1; have hz1 := hb1.size; (try simp only [World.size_alloc] at hz1); (try simp only [World.size_setCell] at hz1); (try simp only [World.size_drew] at hz1); (try have L1 : w.heap.size < w1.heap.size := by omega); have B1 : Below w.heap.size w w1 := bel_tr (by first | (go_grown; done) | (go_split_ands; assumption)) hb1)
    go_wp2_with fail
    go_ret2
    exact CauseC.nil' E.out R.out B1


theorem pos11_any (b : Batch) (c : Cause) (u : Nat) (w : World) (hc : causeB c = true) (c0 : w.cell? ⟨u, 0, none⟩ = some (.int .i64 c.Kind)) (c1 : w.cell? ⟨u, 1, none⟩ = some (.int .i64 c.Number)) (hu : u < w.heap.size) :
    Calls Tryz.prog 50 #[.agg #[.int .i64 b.Clay, .int .i64 b.Mould, .int .i64 b.Chamber, .bool b.Bad], .pointer (some ⟨u, 0, none⟩)] w fun e w' => e = .returned (.bool (hasB b c)) ∧ Below w.heap.size w w' := by
  have HC := Lib.hid hc; clear hc
  have d0 : ∀ o, (w.alloc o).cell? ⟨u, 0, none⟩ = some (.int .i64 c.Kind) := fun o => (((Below.refl _ w).alloc (Nat.le_refl _) o).cell (p := ⟨u, 0, none⟩) hu).trans c0
  have d1 : ∀ o, (w.alloc o).cell? ⟨u, 1, none⟩ = some (.int .i64 c.Number) := fun o => (((Below.refl _ w).alloc (Nat.le_refl _) o).cell (p := ⟨u, 1, none⟩) hu).trans c1
  go_enter Tryz.func50, Tryz.ntmps50
  go_wp2_with fail
  refine (has_any b c _ HC.out).mono ?_; rintro e w1 ⟨rfl, hb1⟩
  have T1 : Below w.heap.size w w1 := bel_tr (by first | (go_grown; done) | (go_split_ands; assumption)) hb1
  go_wp2_with fail
  go_ret
  exact ⟨rfl, T1⟩
theorem eg_pos11 : ∀ args w, (callFunc 50 args).run Tryz.prog w = .ok (.enter 50 args) w := enters_of Tryz.func50 (by kernel_rfl) rfl
theorem pos1_any (c : Cause) (p : Nat) (B : Option Addr) (m d : Nat) (bs : List Batch) (w : World) (hc : causeB c = true) (hB : BatchS w B m bs) (hp : w.cell? ⟨p, 0, none⟩ = some (.slice B m d)) (hl : p < w.heap.size) :
    Calls Tryz.prog 49 #[.agg #[.int .i64 c.Kind, .int .i64 c.Number], .pointer (some ⟨p, 0, none⟩)] w fun e w' => e = .returned (.bool (bs.any (fun b => hasB b c))) ∧ Below w.heap.size w w' := by
  have hpr : ∀ (W : World) (u : Nat), W.cell? ⟨u, 0, none⟩ = some (.int .i64 c.Kind) → W.cell? ⟨u, 1, none⟩ = some (.int .i64 c.Number) → u < W.heap.size → PredB 50 #[] #[.pointer (some ⟨u, 0, none⟩)] Batch.enc (fun b => hasB b c) bs W :=
    fun W u h0 h1 hu W' x hx hW => pos11_any x c u W' hc ((hW.cell (p := ⟨u, 0, none⟩) hu).trans h0) ((hW.cell (p := ⟨u, 1, none⟩) hu).trans h1) (Nat.lt_of_lt_of_le hu hW.size)
  have HP := Lib.hid hpr; clear hpr hc
  have hg1 : ∀ o, (w.alloc o).cell? ⟨p, 0, none⟩ = some (.slice B m d) := fun o => (((Below.refl _ w).alloc (Nat.le_refl _) o).cell (p := ⟨p, 0, none⟩) hl).trans hp
  go_enter Tryz.func49, Tryz.ntmps49
  go_wp2_with fail
  refine (conFBatch_any _ 50 _ _ eg_pos11 _ _ _ bs _ (hB.below (by first | (go_grown; done) | (go_split_ands; assumption))) (HP.out _ _ (by go_simp) (by go_simp) (by simp))).mono ?_; rintro e w1 ⟨rfl, hb1⟩
  have T1 : Below w.heap.size w w1 := bel_tr (by first | (go_grown; done) | (go_split_ands; assumption)) hb1
  go_wp2_with fail
  go_ret
  exact ⟨rfl, T1⟩
theorem eg_pos1 : ∀ args w, (callFunc 49 args).run Tryz.prog w = .ok (.enter 49 args) w := enters_of Tryz.func49 (by kernel_rfl) rfl
theorem pos_pred (w : World) (g p : Nat) (q m d : Nat) (bs : List Batch) (l : List Cause) (hl : ∀ c ∈ l, causeB c = true) (hR : RowFBatch w q m (nt bs)) (hm : bs.length = m) (hm40 : m ≤ 40) (hp : w.cell? ⟨p, 0, none⟩ = some (.slice (some ⟨q, 0, none⟩) m d)) (hpl : p < w.heap.size) (hpg : p ≠ g) (hqg : q ≠ g) :
    PredGCause 49 #[] #[.pointer (some ⟨p, 0, none⟩)] (fun c => bs.any (fun b => hasB b c)) l w g := fun W x hx hg =>
  pos1_any x p _ m d bs W (hl x hx) (BatchS.grown (hR.S hm (by omega)) hg (fun b off e => by simp only [Option.some.injEq, Addr.mk.injEq, and_true] at e; obtain ⟨rfl, _⟩ := e; exact fun h => hqg (by simpa using h)))
    ((World.cell?_of_block (hg.block p hpl (fun h => hpg (by simpa using h)))).trans hp) (Nat.lt_of_lt_of_le hpl hg.size)

set_option maxHeartbeats 2000000 in
theorem possibleCauses_any (A : Option Addr) (n c : Nat) (xs : List Batch) (w : World) (hA : BatchS w A n xs) (h0 : codeB xs = 0) :
    Calls Tryz.prog 25 #[.slice A n c] w (OwnRC (posL xs) w) := by
  have hn := hA.bound
  obtain ⟨hok, hany⟩ := codeB_ok h0
  have hpos : 0 < n := by
    rcases Nat.eq_zero_or_pos n with z | z
    · have := hA.len; rw [z] at this
      rw [List.length_eq_zero_iff.1 this] at hany; cases hany
    · exact z
  obtain ⟨hbo, hb40⟩ := bads_ok hok
  have hg40 := goods_len hok
  have OKB := Lib.hid hbo
  have E := Lib.hid (show ((inL (badsOf xs)).filter fun x => !(fun c => (goodsOf xs).any (fun b => hasB b c)) x) = posL xs from rfl)
  clear hok hany hbo h0
  obtain ⟨bs, hbs⟩ : ∃ bs, badsOf xs = bs := ⟨_, rfl⟩
  obtain ⟨gs, hgs⟩ : ∃ gs, goodsOf xs = gs := ⟨_, rfl⟩
  have hdiv : ∀ W, BatchS W A n xs → Calls Tryz.prog 47 #[.slice A n c] W (fun e w' => ∃ q cap q2 cap2, e = .returned (.tuple #[.slice (some ⟨q, 0, none⟩) (badsOf xs).length cap, .slice (some ⟨q2, 0, none⟩) (goodsOf xs).length cap2]) ∧ RowFBatch w' q (badsOf xs).length (nt (badsOf xs)) ∧ RowFBatch w' q2 (goodsOf xs).length (nt (goodsOf xs)) ∧ Below W.heap.size W w') := fun W hW => divided_any A n c xs W hW hpos
  rw [hbs] at hb40 OKB E hdiv; rw [hgs] at hg40 E hdiv
  obtain ⟨nb, hnb⟩ : ∃ nb, bs.length = nb := ⟨_, rfl⟩
  obtain ⟨ng, hng⟩ : ∃ ng, gs.length = ng := ⟨_, rfl⟩
  have NB := Lib.hid hnb; have NG := Lib.hid hng
  rw [hnb] at hb40 hdiv; rw [hng] at hg40 hdiv
  clear hbs hgs hnb hng
  go_enter Tryz.func25, Tryz.ntmps25
  go_wp2_with fail
  refine (hdiv _ hA).mono ?_; rintro e w1 ⟨q, cap, q2, cap2, rfl, hR1, hR2, hb1⟩
  have HR1 := Lib.hid hR1; have HR2 := Lib.hid hR2; clear hR1 hR2 hdiv
  have hz1 := hb1.size
  have hq1l := HR1.out.lt
  have hq2l := HR2.out.lt
  go_wp2_with fail
  refine (causesIn_any _ _ _ bs _ ((HR1.out.S NB.out (by omega)).below (by first | (go_grown; done) | (go_split_ands; assumption))) (by omega) OKB.out).mono ?_; rintro e w2 ⟨g, cap3, rfl, hg, hcap, hR3, hb2⟩
  have HR3 := Lib.hid hR3; clear hR3
  have hlen := inL_len bs
  obtain ⟨l, hl⟩ : ∃ l, inL bs = l := ⟨_, rfl⟩
  have LOK := Lib.hid (show ∀ c ∈ l, causeB c = true by rw [← hl]; exact fun c hc => inL_ok hc)
  rw [hl] at hcap HR3 hlen E ⊢
  clear hl
  obtain ⟨m, hm⟩ : ∃ m, l.length = m := ⟨_, rfl⟩
  have M := Lib.hid hm
  rw [hm] at hcap HR3 hlen ⊢
  clear hm
  simp only [World.size_alloc] at hg
  have hbel : Below w1.heap.size w1 w2 := bel_tr (by first | (go_grown; done) | (go_split_ands; assumption)) hb2
  have hbox : w2.cell? ⟨w1.heap.size, 0, none⟩ = some (.slice (some ⟨q2, 0, none⟩) ng cap2) := (hb2.cell (p := ⟨w1.heap.size, 0, none⟩) (by simp)).trans (by go_simp)
  have hz2 := hb2.size
  simp only [World.size_alloc] at hz2
  have HPR := Lib.hid (pos_pred w2 g w1.heap.size q2 ng cap2 gs l LOK.out (HR2.out.below hbel) NG.out (by omega) hbox (by omega) (by omega) (by omega))
  go_wp2_with fail
  refine (delFCause_any _ 49 _ _ eg_pos1 g m cap3 l _ M.out (by omega) hcap HR3.out HPR.out).mono ?_; rintro e w3 ⟨rfl, hR4, hg4⟩
  have hB3 : Below w.heap.size w w3 := below_grown (hb1.trans (hbel.mono hz1)) hg4 (by omega) (fun k e => by simp only [Option.some.injEq] at e; omega)
  have hcl := List.length_filter_le (fun x => !(fun c => gs.any (fun b => hasB b c)) x) l
  rw [M.out] at hcl
  rw [E.out] at *
  go_wp2_with fail
  go_ret
  exact ⟨g, cap3, rfl, by omega, by omega, hR4, hB3⟩
end Go.Proofs.YtmapjepdcbpalaaGreatDoor
