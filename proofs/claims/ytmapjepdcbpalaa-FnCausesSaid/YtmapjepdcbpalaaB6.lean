/- The contracts of AreExplained, the reference's and the program's. -/
import Derived.Test.YtmapjepdcbpalaaCQ2
import Derived.Test.YtmapjepdcbpalaaTw
namespace Go.Proofs.Ytmapjepdcbpalaa
open Go.RowKit
set_option linter.unusedVariables false

theorem any_succ {α : Type} [Inhabited α] {xs : List α} {p : α → Bool} {k : Nat} (h : k < xs.length) : (xs.take (k + 1)).any p = ((xs.take k).any p || p (nt xs k)) := by
  rw [take_snoc_nt h]; simp

theorem eg_has : ∀ args w, (callFunc 74 args).run Try.prog w = .ok (.enter 74 args) w := enters_of Try.func74 (by kernel_rfl) rfl
set_option maxHeartbeats 1000000 in
theorem hasAny_any (b : Batch) (A : Option Addr) (n cp : Nat) (cs : List Cause) (w : World) (hA : CauseS w A n cs) (hcs : ∀ c ∈ cs, causeB c = true) :
    Calls Try.prog 59 #[.agg #[.int .i64 b.Clay, .int .i64 b.Mould, .int .i64 b.Chamber, .bool b.Bad], .slice A n cp] w fun e w' => e = .returned (.bool (cs.any (hasB b))) ∧ Below w.heap.size w w' := by
  have hpr : ∀ W : World, PredB 74 #[.agg #[.int .i64 b.Clay, .int .i64 b.Mould, .int .i64 b.Chamber, .bool b.Bad]] #[] Cause.enc (hasB b) cs W := fun W W' x hx _ => has_any b x W' (hcs x hx)
  have HP := Lib.hid hpr; clear hpr hcs
  go_enter Try.func59, Try.ntmps59
  go_wp2_with fail
  refine (conFCause_any (hasB b) 74 _ _ eg_has _ _ _ cs _ (hA.below (by first | (go_grown; done) | (go_split_ands; assumption))) (HP.out _)).mono ?_; rintro e w1 ⟨rfl, hb1⟩
  go_wp2_with fail
  go_ret
  exact ⟨rfl, bel_tr (by go_grown) hb1⟩

theorem notCause_any (c : Cause) (w : World) :
    Calls Try.prog 63 #[.agg #[.int .i64 c.Kind, .int .i64 c.Number]] w fun e w' => e = .returned (.bool (!causeB c)) ∧ Below w.heap.size w w' := by
  go_enter Try.func63, Try.ntmps63
  go_wp2_with fail
  refine (isCause_any c _).mono ?_; rintro e w1 ⟨rfl, hb1⟩
  go_wp2_with fail
  go_ret
  exact ⟨rfl, bel_tr (by go_grown) hb1⟩
set_option maxHeartbeats 1000000 in
theorem unlike_any (b : Batch) (g : Nat) (A : Option Addr) (n cp : Nat) (cs : List Cause) (w : World) (hA : CauseS w A n cs) (hcs : ∀ c ∈ cs, causeB c = true) (hg : w.cell? ⟨g, 0, none⟩ = some (.slice A n cp)) (hl : g < w.heap.size) :
    Calls Try.prog 65 #[.agg #[.int .i64 b.Clay, .int .i64 b.Mould, .int .i64 b.Chamber, .bool b.Bad], .pointer (some ⟨g, 0, none⟩)] w fun e w' => e = .returned (.bool (b.Bad != cs.any (hasB b))) ∧ Below w.heap.size w w' := by
  have HCS := Lib.hid hcs; clear hcs
  obtain ⟨v, hv⟩ : ∃ v, cs.any (hasB b) = v := ⟨_, rfl⟩
  have V := Lib.hid hv
  rw [hv]; clear hv
  have hne : g ≠ w.heap.size := by omega
  have hl1 : g < w.heap.size + 1 := by omega
  have hg1 : ∀ o, (w.alloc o).cell? ⟨g, 0, none⟩ = some (.slice A n cp) := fun o => (((Below.refl _ w).alloc (Nat.le_refl _) o).cell (p := ⟨g, 0, none⟩) hl).trans hg
  obtain ⟨b0, b1, b2, b3⟩ := b
  cases b3
  · cases v
    · go_enter Try.func65, Try.ntmps65
      go_wp2_with fail
      go_region_held3 (fun w' => w'.cell? ⟨w.heap.size, 0, none⟩ = some (.int .i64 b0) ∧ w'.cell? ⟨w.heap.size, 1, none⟩ = some (.int .i64 b1) ∧ w'.cell? ⟨w.heap.size, 2, none⟩ = some (.int .i64 b2) ∧ w'.cell? ⟨w.heap.size, 3, none⟩ = some (.bool false) ∧ w'.cell? ⟨g, 0, none⟩ = some (.slice A n cp) ∧ w.heap.size < w'.heap.size ∧ g < w'.heap.size ∧ Below w.heap.size w w')
        ((try refine ⟨?_, ?_, ?_, ?_, ?_, ?_, ?_, ?_⟩) <;> (first | go_keep | (go_grown; done) | (go_split_ands; first | exact (hb1.cell (p := ⟨_, _, none⟩) (by assumption)).trans (by assumption) | exact Nat.lt_of_lt_of_le (by assumption) hb1.size | exact bel_tr (by assumption) hb1)))
        (first | (go_at_call 59; refine (asB (hasAny_any ⟨b0, b1, b2, false⟩ _ _ _ cs _ (hA.below (by first | (go_grown; done) | (go_split_ands; assumption))) HCS.out) V.out).mono ?_; rintro e w1 ⟨rfl, hb1⟩))
      all_goals
        go_wp2
        go_ret
        exact ⟨rfl, (by first | (go_grown; done) | (go_split_ands; assumption))⟩
    · go_enter Try.func65, Try.ntmps65
      go_wp2_with fail
      go_region_held3 (fun w' => w'.cell? ⟨w.heap.size, 0, none⟩ = some (.int .i64 b0) ∧ w'.cell? ⟨w.heap.size, 1, none⟩ = some (.int .i64 b1) ∧ w'.cell? ⟨w.heap.size, 2, none⟩ = some (.int .i64 b2) ∧ w'.cell? ⟨w.heap.size, 3, none⟩ = some (.bool false) ∧ w'.cell? ⟨g, 0, none⟩ = some (.slice A n cp) ∧ w.heap.size < w'.heap.size ∧ g < w'.heap.size ∧ Below w.heap.size w w')
        ((try refine ⟨?_, ?_, ?_, ?_, ?_, ?_, ?_, ?_⟩) <;> (first | go_keep | (go_grown; done) | (go_split_ands; first | exact (hb1.cell (p := ⟨_, _, none⟩) (by assumption)).trans (by assumption) | exact Nat.lt_of_lt_of_le (by assumption) hb1.size | exact bel_tr (by assumption) hb1)))
        (first | (go_at_call 59; refine (asB (hasAny_any ⟨b0, b1, b2, false⟩ _ _ _ cs _ (hA.below (by first | (go_grown; done) | (go_split_ands; assumption))) HCS.out) V.out).mono ?_; rintro e w1 ⟨rfl, hb1⟩))
      all_goals
        go_wp2
        go_ret
        exact ⟨rfl, (by first | (go_grown; done) | (go_split_ands; assumption))⟩
  · cases v
    · go_enter Try.func65, Try.ntmps65
      go_wp2_with fail
      go_region_held3 (fun w' => w'.cell? ⟨w.heap.size, 0, none⟩ = some (.int .i64 b0) ∧ w'.cell? ⟨w.heap.size, 1, none⟩ = some (.int .i64 b1) ∧ w'.cell? ⟨w.heap.size, 2, none⟩ = some (.int .i64 b2) ∧ w'.cell? ⟨w.heap.size, 3, none⟩ = some (.bool true) ∧ w'.cell? ⟨g, 0, none⟩ = some (.slice A n cp) ∧ w.heap.size < w'.heap.size ∧ g < w'.heap.size ∧ Below w.heap.size w w')
        ((try refine ⟨?_, ?_, ?_, ?_, ?_, ?_, ?_, ?_⟩) <;> (first | go_keep | (go_grown; done) | (go_split_ands; first | exact (hb1.cell (p := ⟨_, _, none⟩) (by assumption)).trans (by assumption) | exact Nat.lt_of_lt_of_le (by assumption) hb1.size | exact bel_tr (by assumption) hb1)))
        (first | (go_at_call 59; refine (asB (hasAny_any ⟨b0, b1, b2, true⟩ _ _ _ cs _ (hA.below (by first | (go_grown; done) | (go_split_ands; assumption))) HCS.out) V.out).mono ?_; rintro e w1 ⟨rfl, hb1⟩))
      all_goals
        go_wp2
        go_ret
        exact ⟨rfl, (by first | (go_grown; done) | (go_split_ands; assumption))⟩
    · go_enter Try.func65, Try.ntmps65
      go_wp2_with fail
      go_region_held3 (fun w' => w'.cell? ⟨w.heap.size, 0, none⟩ = some (.int .i64 b0) ∧ w'.cell? ⟨w.heap.size, 1, none⟩ = some (.int .i64 b1) ∧ w'.cell? ⟨w.heap.size, 2, none⟩ = some (.int .i64 b2) ∧ w'.cell? ⟨w.heap.size, 3, none⟩ = some (.bool true) ∧ w'.cell? ⟨g, 0, none⟩ = some (.slice A n cp) ∧ w.heap.size < w'.heap.size ∧ g < w'.heap.size ∧ Below w.heap.size w w')
        ((try refine ⟨?_, ?_, ?_, ?_, ?_, ?_, ?_, ?_⟩) <;> (first | go_keep | (go_grown; done) | (go_split_ands; first | exact (hb1.cell (p := ⟨_, _, none⟩) (by assumption)).trans (by assumption) | exact Nat.lt_of_lt_of_le (by assumption) hb1.size | exact bel_tr (by assumption) hb1)))
        (first | (go_at_call 59; refine (asB (hasAny_any ⟨b0, b1, b2, true⟩ _ _ _ cs _ (hA.below (by first | (go_grown; done) | (go_split_ands; assumption))) HCS.out) V.out).mono ?_; rintro e w1 ⟨rfl, hb1⟩))
      all_goals
        go_wp2
        go_ret
        exact ⟨rfl, (by first | (go_grown; done) | (go_split_ands; assumption))⟩

def AreC (xs : List Batch) (cs : List Cause) (w : World) (e : Ending) (w' : World) : Prop := e = .returned (.tuple #[.bool (aeV xs cs), .int .i64 (aeC xs cs)]) ∧ Below w.heap.size w w'
theorem aeB_any (xs : List Batch) (cs : List Cause) : aeB xs cs = !xs.any (fun b => b.Bad != cs.any (hasB b)) := by
  rw [aeB]
  induction xs with
  | nil => rfl
  | cons a l ih => rw [List.all_cons, List.any_cons, ih, Bool.not_or]
theorem AreC.mk {xs : List Batch} {cs : List Cause} {w w' : World} {v : Bool} {c : Int} (h : aeV xs cs = v) (k : aeC xs cs = c) (hb : Below w.heap.size w w') : AreC xs cs w (.returned (.tuple #[.bool v, .int .i64 c])) w' := by
  subst h; subst k; exact ⟨rfl, hb⟩
theorem any_notC {cs : List Cause} : cs.any (fun c => !causeB c) = !cs.all causeB := by
  induction cs with
  | nil => rfl
  | cons a l ih => simp only [List.any_cons, List.all_cons, ih]; simp
theorem eg_notC : ∀ args w, (callFunc 63 args).run Try.prog w = .ok (.enter 63 args) w := enters_of Try.func63 (by kernel_rfl) rfl
theorem eg_unlike : ∀ args w, (callFunc 65 args).run Try.prog w = .ok (.enter 65 args) w := enters_of Try.func65 (by kernel_rfl) rfl
set_option maxHeartbeats 4000000 in
theorem implAreExplained_any (A : Option Addr) (n c : Nat) (xs : List Batch) (B : Option Addr) (m d : Nat) (cs : List Cause) (w : World) (hA : BatchS w A n xs) (hB : CauseS w B m cs) :
    Calls Try.prog 22 #[.slice A n c, .slice B m d] w (AreC xs cs w) := by
  have hn := hA.bound
  have hm := hB.bound
  have hp1 : ∀ W : World, PredB 63 #[] #[] Cause.enc (fun c => !causeB c) cs W := fun W W' x hx _ => notCause_any x W'
  have HP1 := Lib.hid hp1; clear hp1
  rcases Bool.eq_false_or_eq_true (batchesOk xs) with g | g
  · by_cases h60 : m ≤ 60
    · rcases Bool.eq_false_or_eq_true (cs.all causeB) with g1 | g1
      · have R := Lib.hid (show aeC xs cs = 0 by rw [aeC, if_pos g, if_pos (by rw [g1, hB.len]; simpa using h60)])
        have E := Lib.hid (show aeV xs cs = aeB xs cs by rw [aeV, if_pos R.out])
        have hcs : ∀ c ∈ cs, causeB c = true := List.all_eq_true.1 g1
        have hp2 : ∀ (W : World) (q : Nat), CauseS W B m cs → W.cell? ⟨q, 0, none⟩ = some (.slice B m d) → q < W.heap.size → PredB 65 #[] #[.pointer (some ⟨q, 0, none⟩)] Batch.enc (fun b => b.Bad != cs.any (hasB b)) xs W :=
          fun W q hS hc hl W' x hx hW => unlike_any x q B m d cs W' (hS.below hW) hcs ((hW.cell (p := ⟨q, 0, none⟩) hl).trans hc) (Nat.lt_of_lt_of_le hl hW.size)
        have HP2 := Lib.hid hp2
        have F1 := Lib.hid (show cs.any (fun c => !causeB c) = false by rw [any_notC, g1]; rfl)
        have F2 := Lib.hid (aeB_any xs cs)
        have G := Lib.hid g; clear g g1 hcs hp2
        go_enter Try.func22, Try.ntmps22
        go_wp2_with fail
        (refine (asB (implValidBatches_any _ _ _ xs _ (hA.below (by first | (go_grown; done) | (go_split_ands; assumption)))) G.out).mono ?_; rintro e w1 ⟨rfl, hb1⟩; obtain ⟨hc1, hf1⟩ := bcell hb1; have hz1 := hb1.size; (try simp only [World.size_alloc] at hz1); (try simp only [World.size_setCell] at hz1); (try simp only [World.size_drew] at hz1); (try have L1 : w.heap.size < w1.heap.size := by omega); have B1 : Below w.heap.size w w1 := bel_tr (by first | (go_grown; done) | (go_split_ands; assumption)) hb1)
        have e1 : w1.cell? ⟨w.heap.size, 0, none⟩ = some (.slice B m d) := by rw [hc1 _ _ (by simp)]; go_simp
        clear hc1 hf1
        go_wp2_with fail
        (refine (asB (conFCause_any _ 63 _ _ eg_notC _ _ _ cs _ (hB.below (by first | (go_grown; done) | (go_split_ands; assumption))) (HP1.out _)) F1.out).mono ?_; rintro e w2 ⟨rfl, hb2⟩; obtain ⟨hc2, hf2⟩ := bcell hb2; have hz2 := hb2.size; (try simp only [World.size_alloc] at hz2); (try simp only [World.size_setCell] at hz2); (try simp only [World.size_drew] at hz2); (try have L2 : w.heap.size < w2.heap.size := by omega); have B2 : Below w.heap.size w w2 := bel_tr (by first | (go_grown; done) | (go_split_ands; assumption)) hb2)
        have e2 : w2.cell? ⟨w.heap.size, 0, none⟩ = some (.slice B m d) := (hb2.cell (p := ⟨w.heap.size, 0, none⟩) L1).trans e1
        clear hc2 hf2
        go_wp2_with fail
        (refine (conFBatch_any _ 65 _ _ eg_unlike _ _ _ xs _ (hA.below (by first | (go_grown; done) | (go_split_ands; assumption))) (HP2.out _ _ (hB.below (by first | (go_grown; done) | (go_split_ands; assumption))) e2 L2)).mono ?_; rintro e w3 ⟨rfl, hb3⟩; obtain ⟨hc3, hf3⟩ := bcell hb3; have hz3 := hb3.size; (try simp only [World.size_alloc] at hz3); (try simp only [World.size_setCell] at hz3); (try simp only [World.size_drew] at hz3); (try have L3 : w.heap.size < w3.heap.size := by omega); have B3 : Below w.heap.size w w3 := bel_tr (by first | (go_grown; done) | (go_split_ands; assumption)) hb3)
        go_wp2_with fail
        go_ret2
        exact AreC.mk (by rw [E.out, F2.out]) R.out B3
      · have R := Lib.hid (show aeC xs cs = 2 by rw [aeC, if_pos g, if_neg (by rw [g1]; simp)])
        have E := Lib.hid (show aeV xs cs = false by rw [aeV, R.out]; rfl)
        have F1 := Lib.hid (show cs.any (fun c => !causeB c) = true by rw [any_notC, g1]; rfl)
        have G := Lib.hid g; clear g g1
        go_enter Try.func22, Try.ntmps22
        go_wp2_with fail
        (refine (asB (implValidBatches_any _ _ _ xs _ (hA.below (by first | (go_grown; done) | (go_split_ands; assumption)))) G.out).mono ?_; rintro e w1 ⟨rfl, hb1⟩; obtain ⟨hc1, hf1⟩ := bcell hb1; have hz1 := hb1.size; (try simp only [World.size_alloc] at hz1); (try simp only [World.size_setCell] at hz1); (try simp only [World.size_drew] at hz1); (try have L1 : w.heap.size < w1.heap.size := by omega); have B1 : Below w.heap.size w w1 := bel_tr (by first | (go_grown; done) | (go_split_ands; assumption)) hb1)
        have e1 : w1.cell? ⟨w.heap.size, 0, none⟩ = some (.slice B m d) := by rw [hc1 _ _ (by simp)]; go_simp
        clear hc1 hf1
        go_wp2_with fail
        (refine (asB (conFCause_any _ 63 _ _ eg_notC _ _ _ cs _ (hB.below (by first | (go_grown; done) | (go_split_ands; assumption))) (HP1.out _)) F1.out).mono ?_; rintro e w2 ⟨rfl, hb2⟩; obtain ⟨hc2, hf2⟩ := bcell hb2; have hz2 := hb2.size; (try simp only [World.size_alloc] at hz2); (try simp only [World.size_setCell] at hz2); (try simp only [World.size_drew] at hz2); (try have L2 : w.heap.size < w2.heap.size := by omega); have B2 : Below w.heap.size w w2 := bel_tr (by first | (go_grown; done) | (go_split_ands; assumption)) hb2)
        go_wp2_with fail
        go_ret2
        exact AreC.mk E.out R.out B2
    · have R := Lib.hid (show aeC xs cs = 2 by rw [aeC, if_pos g, if_neg (by rw [hB.len]; simpa using fun _ => by omega)])
      have E := Lib.hid (show aeV xs cs = false by rw [aeV, R.out]; rfl)
      have G := Lib.hid g; clear g
      go_enter Try.func22, Try.ntmps22
      go_wp2_with fail
      (refine (asB (implValidBatches_any _ _ _ xs _ (hA.below (by first | (go_grown; done) | (go_split_ands; assumption)))) G.out).mono ?_; rintro e w1 ⟨rfl, hb1⟩; obtain ⟨hc1, hf1⟩ := bcell hb1; have hz1 := hb1.size; (try simp only [World.size_alloc] at hz1); (try simp only [World.size_setCell] at hz1); (try simp only [World.size_drew] at hz1); (try have L1 : w.heap.size < w1.heap.size := by omega); have B1 : Below w.heap.size w w1 := bel_tr (by first | (go_grown; done) | (go_split_ands; assumption)) hb1)
      have e1 : w1.cell? ⟨w.heap.size, 0, none⟩ = some (.slice B m d) := by rw [hc1 _ _ (by simp)]; go_simp
      clear hc1 hf1
      go_wp2_with fail
      go_ret2
      exact AreC.mk E.out R.out B1
  · have R := Lib.hid (show aeC xs cs = 1 by rw [aeC, g]; rfl)
    have E := Lib.hid (show aeV xs cs = false by rw [aeV, R.out]; rfl)
    have G := Lib.hid g; clear g
    go_enter Try.func22, Try.ntmps22
    go_wp2_with fail
    (refine (asB (implValidBatches_any _ _ _ xs _ (hA.below (by first | (go_grown; done) | (go_split_ands; assumption)))) G.out).mono ?_; rintro e w1 ⟨rfl, hb1⟩; obtain ⟨hc1, hf1⟩ := bcell hb1; have hz1 := hb1.size; (try simp only [World.size_alloc] at hz1); (try simp only [World.size_setCell] at hz1); (try simp only [World.size_drew] at hz1); (try have L1 : w.heap.size < w1.heap.size := by omega); have B1 : Below w.heap.size w w1 := bel_tr (by first | (go_grown; done) | (go_split_ands; assumption)) hb1)
    go_wp2_with fail
    go_ret2
    exact AreC.mk E.out R.out B1
end Go.Proofs.Ytmapjepdcbpalaa
