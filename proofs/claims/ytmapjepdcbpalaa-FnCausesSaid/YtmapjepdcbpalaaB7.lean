/- The contracts of l18Open and of the reference's AreExplained. -/
import Derived.Test.YtmapjepdcbpalaaB6
namespace Go.Proofs.Ytmapjepdcbpalaa
open Go.RowKit
set_option linter.unusedVariables false

/-- A drawn region's worlds. -/
def IsOpen (xs : List Batch) (cs : List Cause) (w : World) (e : Ending) (w' : World) : Prop := ∃ r : Int, e = .returned (.int .i64 r) ∧ FirstAt (openB cs) xs r ∧ Below w.heap.size w w'
theorem FirstAt.neg {α : Type} [Inhabited α] {p : α → Bool} {xs : List α} {r : Int} (h : FirstAt p xs r) : decide (r < 0) = !xs.any p := by
  rw [← h.any, Bool.eq_iff_iff]; simp
set_option maxHeartbeats 4000000 in
theorem l18Open_any (A : Option Addr) (n c : Nat) (xs : List Batch) (B : Option Addr) (m d : Nat) (cs : List Cause) (w : World) (hA : BatchS w A n xs) (hB : CauseS w B m cs) :
    Calls Try.prog 69 #[.slice A n c, .slice B m d] w (IsOpen xs cs w) := by
  have hn := hA.bound
  have hm := hB.bound
  have L := Lib.hid hA.len
  have M := Lib.hid hB.len
  go_enter Try.func69, Try.ntmps69
  go_wp2
  go_loopw [5] (fun i wr => ∃ k : Nat, k ≤ n ∧ i = .int .i64 k ∧ (xs.take k).any (openB cs) = false ∧ Below w.heap.size w wr) (fun i _ => n - (intOf i).toNat)
  case atStart => exact ⟨0, Nat.zero_le _, rfl, rfl, Below.refl _ _⟩
  case round =>
    obtain ⟨k, hk, rfl, hall, hbel⟩ := hrel
    have HA := Lib.hid hall; clear hall
    obtain ⟨wo, rfl⟩ : ∃ wo : World, wo = wr := ⟨_, rfl⟩
    by_cases hlt : k < n
    · obtain ⟨b, off, rfl, hb, hc⟩ := (hA.below hbel).cell (by omega)
      have hlx : k < xs.length := by rw [hA.len]; exact hlt
      have HC := Lib.hid (hc k hlt); clear hc
      obtain ⟨t, ht⟩ : ∃ t, (nt xs k).Bad = t := ⟨_, rfl⟩
      have HT := Lib.hid ht
      have hq3 := HC.out.2.2.2
      rw [ht] at hq3
      clear ht
      go_wp2
      clear hq3
      go_loopw [7, 6] (fun j h wr => ∃ (q : Nat) (v : Bool), q ≤ m ∧ j = .int .i64 q ∧ h = .bool v ∧ v = (!t || (cs.take q).any (hasB (nt xs k))) ∧ Below wo.heap.size wo wr) (fun j _ _ => m - (intOf j).toNat)
      case atStart => exact ⟨0, !t, Nat.zero_le _, rfl, rfl, by simp, Below.refl _ _⟩
      case round =>
        obtain ⟨q, v, hq, rfl, rfl, hv, hI⟩ := hrel
        have V := Lib.hid hv; clear hv
        obtain ⟨wc, rfl⟩ : ∃ wc : World, wc = wr := ⟨_, rfl⟩
        cases v with
        | true =>
          have O := Lib.hid (show openB cs (nt xs k) = false by
            rw [openB, HT.out]
            have := V.out
            cases t with
            | false => rfl
            | true =>
              have h1 : cs.any (hasB (nt xs k)) = true := by
                rw [List.any_eq_true]
                obtain ⟨c, hc, e⟩ := List.any_eq_true.1 (show (cs.take q).any (hasB (nt xs k)) = true by simpa using this.symm)
                exact ⟨c, List.mem_of_mem_take hc, e⟩
              rw [h1]; rfl)
          by_cases hqt : q < m
          all_goals
            go_wp2
            go_roundw
            case rel => exact ⟨k + 1, by omega, by go_num, by rw [any_succ hlx, HA.out, O.out]; rfl, bel_tr hbel hI⟩
            case measure => simp [intOf]; omega
        | false =>
          by_cases hqt : q < m
          · obtain ⟨b2, off2, rfl, hb2, hc2⟩ := (hB.below (bel_tr hbel hI)).cell (by omega)
            have hlc : q < cs.length := by rw [hB.len]; exact hqt
            obtain ⟨hr0, hr1⟩ := hc2 q hqt
            clear hc2
            obtain ⟨hq0, hq1, hq2, hq3⟩ := HC.out.keep (w' := wc) fun o => hI.cell (p := ⟨b, o, none⟩) hb
            obtain ⟨u, hu⟩ : ∃ u, hasB (nt xs k) (nt cs q) = u := ⟨_, rfl⟩
            have U := Lib.hid hu; clear hu
            have Vn := Lib.hid (show u = (!t || (cs.take (q + 1)).any (hasB (nt xs k))) by
              rw [any_succ hlc, ← Bool.or_assoc, ← V.out, Bool.false_or, U.out])
            go_wp2_with fail
            first | go_region_with ((go_at_call 77; refine (asB (l18Has_any (nt xs k) (nt cs q) _) U.out).mono ?_; rintro e w5 ⟨rfl, hb5⟩)) | fail
            all_goals
              have T5 : Below wc.heap.size wc w5 := by first | exact bel_tr (Below.refl _ _) hb5 | exact bel_tr (below_drew (Below.refl _ _)) hb5 | exact bel_tr (below_drew (below_drew (Below.refl _ _))) hb5
              go_wp2_with fail
              go_roundw
              case rel => exact ⟨q + 1, u, by omega, by go_num, rfl, Vn.out, by first | exact bel_tr hI T5 | exact below_drew (bel_tr hI T5)⟩
              case measure => simp [intOf]; omega
          · obtain rfl : m = q := by omega
            have O := Lib.hid (show openB cs (nt xs k) = true by
              rw [openB, HT.out]
              have := V.out
              rw [List.take_of_length_le (by rw [M.out]; omega)] at this
              cases t with
              | false => simp at this
              | true => rw [Bool.not_true, Bool.false_or] at this; rw [← this]; rfl)
            go_wp2
            go_ret
            exact ⟨_, rfl, .inr ⟨k, hlx, rfl, O.out, HA.out⟩, bel_tr hbel hI⟩
    · go_wp2
      go_ret
      exact ⟨_, rfl, .inl ⟨rfl, by
        have := HA.out; rw [List.take_of_length_le (by rw [L.out]; omega)] at this; exact this⟩, hbel⟩

theorem all_taken {α : Type} [Inhabited α] {xs : List α} {p : α → Prop} {k : Nat} (h : ∀ j, j < k → p (nt xs j)) (hk : xs.length = k) : ∀ c ∈ xs, p c := fun c hc => by
  obtain ⟨j, hj, rfl⟩ := List.getElem_of_mem hc
  rw [← nt_lt hj]
  exact h j (by omega)
set_option maxHeartbeats 4000000 in
theorem specAreExplained_any (A : Option Addr) (n c : Nat) (xs : List Batch) (B : Option Addr) (m d : Nat) (cs : List Cause) (w : World) (hA : BatchS w A n xs) (hB : CauseS w B m cs) :
    Calls Try.prog 23 #[.slice A n c, .slice B m d] w (AreC xs cs w) := by
  have hn := hA.bound
  have hm := hB.bound
  have L := Lib.hid hA.len
  have M := Lib.hid hB.len
  rcases Bool.eq_false_or_eq_true (batchesOk xs) with g | g
  · have G := Lib.hid g; clear g
    go_enter Try.func23, Try.ntmps23
    go_wp2_with fail
    (refine (asB (l18Ok_any _ _ _ xs _ (hA.below (by first | (go_grown; done) | (go_split_ands; assumption)))) G.out).mono ?_; rintro e w1 ⟨rfl, hb1⟩; obtain ⟨hc1, hf1⟩ := bcell hb1; have hz1 := hb1.size; (try simp only [World.size_alloc] at hz1); (try simp only [World.size_setCell] at hz1); (try simp only [World.size_drew] at hz1); (try have L1 : w.heap.size < w1.heap.size := by omega); have B1 : Below w.heap.size w w1 := bel_tr (by first | (go_grown; done) | (go_split_ands; assumption)) hb1)
    clear hc1 hf1
    go_wp2_with fail
    go_loopw [6] (fun i wr => ∃ k : Nat, k ≤ m ∧ i = .int .i64 k ∧ (cs.take k).all causeB = true ∧ Below w.heap.size w wr) (fun i _ => m - (intOf i).toNat)
    case atStart => exact ⟨0, Nat.zero_le _, rfl, rfl, B1⟩
    case round =>
      obtain ⟨k, hk, rfl, hall, hbel⟩ := hrel
      have HA := Lib.hid hall; clear hall
      obtain ⟨wo, rfl⟩ : ∃ wo : World, wo = wr := ⟨_, rfl⟩
      by_cases hlt : k < m
      · obtain ⟨b, off, rfl, hb, hc⟩ := (hB.below hbel).cell (by omega)
        have hlx : k < cs.length := by rw [hB.len]; exact hlt
        obtain ⟨hq0, hq1⟩ := hc k hlt
        clear hc
        rcases Bool.eq_false_or_eq_true (causeB (nt cs k)) with f | f
        · have F := Lib.hid f; clear f
          go_wp2_with fail
          refine (asB (l18Cause_any (nt cs k) _) F.out).mono ?_; rintro e w2 ⟨rfl, hb2⟩
          go_wp2_with fail
          go_roundw
          case rel => exact ⟨k + 1, by omega, by go_num, by rw [all_succ hlx, HA.out, F.out]; rfl, bel_tr hbel hb2⟩
          case measure => simp [intOf]; omega
        · have F := Lib.hid f; clear f
          have R := Lib.hid (show aeC xs cs = 2 by rw [aeC, if_pos G.out, all_bad hlx F.out]; rfl)
          have E := Lib.hid (show aeV xs cs = false by rw [aeV, R.out]; rfl)
          go_wp2_with fail
          refine (asB (l18Cause_any (nt cs k) _) F.out).mono ?_; rintro e w2 ⟨rfl, hb2⟩
          go_wp2_with fail
          go_ret2
          exact AreC.mk E.out R.out (bel_tr hbel hb2)
      · obtain rfl : m = k := by omega
        have AL := Lib.hid (show cs.all causeB = true by have := HA.out; rw [List.take_of_length_le (by rw [M.out]; omega)] at this; exact this)
        by_cases h60 : m ≤ 60
        · have R := Lib.hid (show aeC xs cs = 0 by rw [aeC, if_pos G.out, if_pos (by rw [AL.out, M.out]; simpa using h60)])
          have E := Lib.hid (show aeV xs cs = aeB xs cs by rw [aeV, if_pos R.out])
          go_wp2
          go_loopw [7] (fun i wr => ∃ k : Nat, k ≤ m ∧ i = .int .i64 k ∧ (∀ j, j < k → cntN (goodP xs (nt cs j)) n = 0) ∧ Below wo.heap.size wo wr) (fun i _ => m - (intOf i).toNat)
          case atStart => exact ⟨0, Nat.zero_le _, rfl, fun j hj => absurd hj (by omega), Below.refl _ _⟩
          case round =>
            obtain ⟨k, hk, rfl, hz, hI⟩ := hrel
            have HZ := Lib.hid hz; clear hz
            by_cases hlt2 : k < m
            · obtain ⟨b, off, rfl, hb, hc⟩ := (hB.below (bel_tr hbel hI)).cell (by omega)
              have hlx : k < cs.length := by rw [hB.len]; exact hlt2
              obtain ⟨hq0, hq1⟩ := hc k hlt2
              clear hc
              obtain ⟨u, hu⟩ : ∃ u, cntN (badP xs (nt cs k)) n = u := ⟨_, rfl⟩
              obtain ⟨v, hv⟩ : ∃ v, cntN (goodP xs (nt cs k)) n = v := ⟨_, rfl⟩
              have hcon := l18Count_any A n c xs (nt cs k) wr (hA.below (bel_tr hbel hI))
              rw [hu, hv] at hcon
              have U := Lib.hid hu; have V := Lib.hid hv; clear hu hv
              rcases Nat.eq_zero_or_pos v with z | z
              · subst z
                go_wp2_with fail
                refine hcon.mono ?_; rintro e w2 ⟨rfl, hb2⟩
                go_wp2_with fail
                go_roundw
                case rel => exact ⟨k + 1, by omega, by go_num, fun j hj => by
                  rcases Nat.lt_or_ge j k with h | h
                  · exact HZ.out j h
                  · obtain rfl : j = k := by omega
                    exact V.out, bel_tr hI hb2⟩
                case measure => simp [intOf]; omega
              · have F := Lib.hid (show aeB xs cs = false from ae_good (nt_mem hlx) (by rw [L.out, V.out]; exact z))
                go_wp2_with fail
                refine hcon.mono ?_; rintro e w2 ⟨rfl, hb2⟩
                go_wp2_with fail
                go_ret2
                exact AreC.mk (by rw [E.out, F.out]) R.out (bel_tr (bel_tr hbel hI) hb2)
            · obtain rfl : m = k := by omega
              have F := Lib.hid (show aeB xs cs = !xs.any (openB cs) from ae_open (fun c hc => by rw [L.out]; exact all_taken (p := fun c => cntN (goodP xs c) n = 0) HZ.out M.out c hc))
              go_wp2_with fail
              refine (l18Open_any _ _ _ xs _ _ _ cs _ (hA.below (bel_tr hbel hI)) (hB.below (bel_tr hbel hI))).mono ?_; rintro e w2 ⟨r, rfl, hr, hb2⟩
              have NR := Lib.hid hr.neg
              clear hr
              go_wp2_with fail
              go_ret2
              exact AreC.mk (by rw [E.out, F.out, NR.out]) R.out (bel_tr (bel_tr hbel hI) hb2)
        · have R := Lib.hid (show aeC xs cs = 2 by rw [aeC, if_pos G.out, if_neg (by rw [M.out]; simpa using fun _ => by omega)])
          have E := Lib.hid (show aeV xs cs = false by rw [aeV, R.out]; rfl)
          go_wp2
          go_ret2
          exact AreC.mk E.out R.out hbel
  · have R := Lib.hid (show aeC xs cs = 1 by rw [aeC, g]; rfl)
    have E := Lib.hid (show aeV xs cs = false by rw [aeV, R.out]; rfl)
    have G := Lib.hid g; clear g
    go_enter Try.func23, Try.ntmps23
    go_wp2_with fail
    (refine (asB (l18Ok_any _ _ _ xs _ (hA.below (by first | (go_grown; done) | (go_split_ands; assumption)))) G.out).mono ?_; rintro e w1 ⟨rfl, hb1⟩; obtain ⟨hc1, hf1⟩ := bcell hb1; have hz1 := hb1.size; (try simp only [World.size_alloc] at hz1); (try simp only [World.size_setCell] at hz1); (try simp only [World.size_drew] at hz1); (try have L1 : w.heap.size < w1.heap.size := by omega); have B1 : Below w.heap.size w w1 := bel_tr (by first | (go_grown; done) | (go_split_ands; assumption)) hb1)
    go_wp2_with fail
    go_ret2
    exact AreC.mk E.out R.out B1
end Go.Proofs.Ytmapjepdcbpalaa
