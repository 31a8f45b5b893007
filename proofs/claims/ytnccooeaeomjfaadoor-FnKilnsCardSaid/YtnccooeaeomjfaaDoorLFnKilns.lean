/- FnKilns returns true for every input, and each argument reads afterwards as it read before; the listed table holds what the program's text lays (tied). No condition. -/
import Derived.Test.YtnccooeaeomjfaaDoorNm2
import Derived.Test.YtnccooeaeomjfaaDoorKF2
import Derived.Test.YtnccooeaeomjfaaDoorLA
import Derived.Test.YtnccooeaeomjfaaDoorAK
import Derived.Test.YtnccooeaeomjfaaDoorKB
import Derived.Lib.SmallJoins
import Derived.ChangeOld
import Derived.ShutString
import Derived.Test.YtnccooeaeomjfaaDoorTie
import Derived.Test.YtnccooeaeomjfaaDoorCards
import Derived.LaidMore
import Derived.OpenShut
import Derived.OpenVars
import Derived.Stop.Joined
import Derived.SevenTiedAt
namespace Go.Proofs.YtnccooeaeomjfaaDoor.lawFnKilns
open Go.ChangeShapes Go.WideShapes Go.ChangeAt Go.WideMaps Go.WideElems Go.RowKit Go.Joins
set_option linter.unusedVariables false

theorem own : ownKnob Tryd.prog.godebug = none := by kernel_rfl
theorem laidOut : laidOutB Tryd.prog = true := by kernel_rfl
theorem gN : Tryd.prog.globalNamed "loop.example/g01042/impl.stageNames" = some 0 := by kernel_rfl
theorem gT : (Tryd.prog.globals[0]?).map (·.type) = some 42 := by kernel_rfl
theorem cS : Tryd.prog.cellsOf 9 = 1 := by kernel_rfl
theorem cA : Tryd.prog.cellsOf 42 = 6 := by kernel_rfl

theorem door_met (os : Os) (args : Array Value) : laidMetH Tryd.prog Rows.fnKilnsRow.laid ((World.doorLaid Tryd.prog 400 os).forCall (fun _ _ => 0) ⟨#[], args, []⟩).memory :=
  laidMetH_of_parts3 (fuel := 8) (laidMet_of_run' 8 (by kernel_rfl) (by kernel_rfl)) (by kernel_rfl) (by kernel_rfl)

theorem of_laid {W : World} (h : laidMetH Tryd.prog Rows.fnKilnsRow.laid W) : Names W := by
  rw [MakeChecks.laidMetH_plain _ _ _ (by kernel_rfl)] at h
  obtain ⟨ps, ⟨g0, t0, cs0, f0, p0, q0, hg0, ht0, hv0, hd0, _⟩, _⟩ := h
  obtain rfl := Option.some.inj (gN.symm.trans hg0)
  obtain rfl := Option.some.inj (gT.symm.trans ht0)
  obtain ⟨xs, m1, rfl, hx1, hlen, hn, hel⟩ := DataW.trod_array Tryd.underlying42 hd0
  simp only [Prod.mk.injEq] at hx1
  obtain ⟨hx1, _⟩ := hx1
  rw [cA] at hlen
  rw [cS] at hel
  have key : ∀ (i : Nat) (s : List UInt8), i < 6 → (xs.map (·.1))[i]? = some (.lit (.string s)) → W.cell? ⟨0, i, none⟩ = some (.string ⟨s.toArray⟩) := by
    intro i s hi hxs
    have h1 := hel i hi
    have hxi : xs[i]? = some (xs[i]'(by omega)) := List.getElem?_eq_getElem (by omega)
    rw [hxi] at h1
    obtain ⟨b, e1, e2, _⟩ := DataW.trod_string Tryd.underlying9 h1
    rw [List.getElem?_map, hxi, e2] at hxs
    simp at hxs
    have hc : cs0.toList[i]? = some (.string b) := by
      have := congrArg (fun l => l[0]?) e1
      simpa [List.getElem?_take, List.getElem?_drop] using this
    have h2 := World.var?_cell hg0 hv0 i
    rw [h2]
    have : b = ⟨s.toArray⟩ := by rw [← hxs]
    rw [← this]
    simpa using hc
  have hd : xs.map (·.1) = [.lit (.string [101, 109, 112, 116, 121]), .lit (.string [115, 101, 116]), .lit (.string [104, 101, 97, 116]), .lit (.string [102, 105, 114, 101]), .lit (.string [99, 111, 111, 108]), .lit (.string [100, 114, 97, 119])] := by
    have := hx1
    simp only [Rows.laid_loop_example_g01042_impl_stageNames, DataW.agg.injEq] at this
    exact this.symm
  exact ⟨key 0 _ (by omega) (by rw [hd]; rfl), key 1 _ (by omega) (by rw [hd]; rfl), key 2 _ (by omega) (by rw [hd]; rfl), key 3 _ (by omega) (by rw [hd]; rfl), key 4 _ (by omega) (by rw [hd]; rfl), key 5 _ (by omega) (by rw [hd]; rfl)⟩

set_option maxRecDepth 100000 in
set_option maxHeartbeats 8000000 in
theorem walk (A0 : Option Addr) (n0 c0 : Nat) (A1 : Option Addr) (n1 c1 : Nat) (w : World) (hR0 : BysRaw w A0 n0) (hR1 : BysRaw w A1 n1) (hN : Names w) :
    Calls Tryd.prog 4 #[.slice A0 n0 c0, .slice A1 n1 c1] w fun e w' => e = .returned (.bool true) ∧ Below w.heap.size w w' := by
  have hbd0 := hR0.1
  have hbd1 := hR1.1
  by_cases hbig : (3000 : Int) < n0 ∨ (3000 : Int) < n1
  · go_enter Tryd.func4, Tryd.ntmps4
    go_wp2_with fail
    refine (long_yes _ _ _ _ _ _ _ hbd0 hbd1 hbig).mono ?_; rintro e w' ⟨rfl, rfl⟩
    go_wp2_with fail
    go_ret
    exact ⟨rfl, by go_grown⟩
  · have hs0 : ¬ (3000 : Int) < n0 := fun h => hbig (.inl h)
    have hs1 : ¬ (3000 : Int) < n1 := fun h => hbig (.inr h)
    have HB0 := Lib.hid (hR0.bys (by omega))
    have HB1 := Lib.hid (hR1.bys (by omega))
    have HNM := Lib.hid hN
    clear hbig hR0 hR1 hN
    go_enter Tryd.func4, Tryd.ntmps4
    go_wp2_with fail
    refine (long_no _ _ _ _ _ _ _ (by omega) (by omega)).mono ?_; rintro e w' ⟨rfl, rfl⟩
    go_wp2_with fail
    refine (a2Kiln_any A0 n0 c0 _ HB0.out).mono ?_; rintro e w1 ⟨ch, q, cap, xs, rfl, hok, hI, hcap, B1⟩
    obtain ⟨m, rfl⟩ := Int.eq_ofNat_of_zero_le (show 0 ≤ ch by have := (okB_parts hok).1; omega)
    have A1w : Below w1.heap.size w1 (w1.alloc (.cells #[.int .i64 m, .slice (some ⟨q, 0, none⟩) 5 cap] 28)) := (Below.refl _ _).alloc (Nat.le_refl _) _
    have BB := bel_tr B1 A1w
    have HB1' := Lib.hid (HB1.out.below BB)
    have KB := Lib.hid (KBox.new w1 m (some ⟨q, 0, none⟩) 5 cap 28)
    have HI := Lib.hid (hI.below A1w)
    have HOK := Lib.hid hok
    obtain ⟨h6, h24, _, _⟩ := okB_parts hok
    clear hI hok
    obtain ⟨_, k0, k1⟩ := KB.out
    go_wp2_with fail
    refine (a2At_any A1 n1 c1 0 200 _ HB1'.out (by omega) (by omega) (by omega) (by omega)).mono ?_; rintro e w' ⟨x, rfl, hx0, hx1, rfl⟩
    go_wp2_with fail
    refine (a2At_any A1 n1 c1 1 m _ HB1'.out (by omega) (by omega) (by omega) (by omega)).mono ?_; rintro e w' ⟨y, rfl, hy0, hy1, rfl⟩
    obtain ⟨a, ha0, ha5, ha, hs1', hs2, hs3⟩ := kilns_stages HOK.out hx0 hx1 hy0 hy1
    obtain ⟨ln, hl1, hl2, hl3⟩ := kilns_line HOK.out hx0 hx1
    have H1 := implStageAt_any m (some ⟨q, 0, none⟩) 5 cap xs y x _ HI.out
    rw [hs1'] at H1
    have H1 := Lib.hid H1
    have HA := Lib.hid ha; have S2 := Lib.hid hs2; have S3 := Lib.hid hs3; have L1 := Lib.hid hl1; have L3 := Lib.hid hl3; have L2 := Lib.hid hl2
    clear hs1' hs2 hs3 hl1 hl3 ha hl2
    go_wp2_with fail
    refine H1.out.mono ?_; rintro e w2 ⟨rfl, hb2⟩
    have KB2 := Lib.hid (KB.out.below hb2)
    have HI2 := Lib.hid (HI.out.below hb2)
    have B2 := bel_tr BB hb2
    clear k0 k1 hb2 H1
    obtain ⟨hk2, k0, k1⟩ := KB2.out
    have hw1 : IntKind.i64.wrap (y + 1) = y + 1 := IntWalk.i64_in _ (by omega)
    have hw2 : IntKind.i64.wrap (x + 1) = x + 1 := IntWalk.i64_in _ (by omega)
    have htm : (y + 1).tmod (m : Int) = (y + 1) % (m : Int) := Int.tmod_eq_emod_of_nonneg (by omega)
    have hm0 : ((m : Int) == 0) = false := by rw [beq_eq_false_iff_ne]; omega
    have hm1 : ¬ (m : Int) = 0 := by omega
    have hm2 : ¬ m = 0 := by omega
    have hm3 : 0 < m := by omega
    have hm4 : 0 ≤ y + 1 := by omega
    have H2 := Lib.hid (show ∀ W, Ints W (some ⟨q, 0, none⟩) 5 xs → Calls Tryd.prog 10 #[.agg #[.int .i64 m, .slice (some ⟨q, 0, none⟩) 5 cap], .int .i64 ((y + 1) % (m : Int)), .int .i64 (x + 1)] W (Two (a, 0) W) from fun W h => by
      have := implStageAt_any m (some ⟨q, 0, none⟩) 5 cap xs ((y + 1) % (m : Int)) (x + 1) W h
      rwa [S2.out] at this)
    go_wp2_with fail
    go_region_held3 (fun w' => w'.cell? ⟨w1.heap.size, 0, none⟩ = some (.int .i64 m) ∧ w'.cell? ⟨w1.heap.size, 1, none⟩ = some (.slice (some ⟨q, 0, none⟩) 5 cap) ∧ w1.heap.size < w'.heap.size ∧ Below w2.heap.size w2 w')
      ((try refine ⟨?_, ?_, ?_, ?_⟩) <;> (first | go_keep | (go_grown; done) | (go_split_ands; first | exact (hb1.cell (p := ⟨_, _, none⟩) (by assumption)).trans (by assumption) | exact Nat.lt_of_lt_of_le (by assumption) hb1.size | exact bel_tr (by assumption) hb1)))
      ((go_at_call 10; refine (H2.out _ (HI2.out.below (by first | (go_grown; done) | (go_split_ands; assumption)))).mono ?_; rintro e wz ⟨rfl, hb1⟩))
    go_split_ands
    rename Below w2.heap.size w2 _ => hb3
    rename World => w3
    have KB3 := Lib.hid (KB2.out.below hb3)
    have HI3 := Lib.hid (HI2.out.below hb3)
    have B3 := bel_tr B2 hb3
    clear k0 k1 hb3 H2 hk2 htm hw1 hw2
    obtain ⟨_, k0, k1⟩ := KB3.out
    have H3 := implStageAt_any m (some ⟨q, 0, none⟩) 5 cap xs y (x + m) _ HI3.out
    rw [S3.out] at H3
    have H3 := Lib.hid H3
    go_wp2_with fail
    refine H3.out.mono ?_; rintro e w4 ⟨rfl, hb4⟩
    have KB4 := Lib.hid (KB3.out.below hb4)
    have HI4 := Lib.hid (HI3.out.below hb4)
    have B4 := bel_tr B3 hb4
    clear k0 k1 hb4 H3
    obtain ⟨_, k0, k1⟩ := KB4.out
    have H4 := implKilnLine_any m (some ⟨q, 0, none⟩) 5 cap xs x _ HI4.out
    rw [L1.out] at H4
    have H4 := Lib.hid H4
    go_wp2_with fail
    refine H4.out.mono ?_; rintro e w5 ⟨rfl, hb5⟩
    have KB5 := Lib.hid (KB4.out.below hb5)
    have HI5 := Lib.hid (HI4.out.below hb5)
    have B5 := bel_tr B4 hb5
    clear k0 k1 hb5 H4
    obtain ⟨_, k0, k1⟩ := KB5.out
    have H5 := implStepOfLine_any m (some ⟨q, 0, none⟩) 5 cap xs ln _ HI5.out
    rw [L3.out] at H5
    have H5 := Lib.hid H5
    go_wp2_with fail
    refine H5.out.mono ?_; rintro e w6 ⟨rfl, hb6⟩
    have KB6 := Lib.hid (KB5.out.below hb6)
    have HI6 := Lib.hid (HI5.out.below hb6)
    have B6 := bel_tr B5 hb6
    clear k0 k1 hb6 H5
    obtain ⟨_, k0, k1⟩ := KB6.out
    have hsz := L2.out
    have hm5 : 0 < (m : Int) := by omega
    go_wp2_with fail
    clear KB KB2 KB3 KB4 KB5 HI HI2 HI3 HI4 HI5 HB0 HB1 HB1' L1 L2 L3 S2 S3 A1w BB B1 B2 B3 B4 B5 hsz hm5 hm4 hcap
    go_loopw [19, 20] (fun s i wr => ∃ t : Nat, t ≤ 6 ∧ i = .int .i64 t ∧ s = .int .i64 (belowN m xs t) ∧ Below w6.heap.size w6 wr) (fun _ i _ => 6 - (intOf i).toNat)
    case atStart => exact ⟨0, by omega, rfl, rfl, Below.refl _ _⟩
    case round =>
      obtain ⟨t, ht, rfl, rfl, hB⟩ := hrel
      have HB := Lib.hid hB
      have KBr := Lib.hid (KB6.out.below hB)
      have HIr := Lib.hid (HI6.out.below hB)
      have HNr := Lib.hid ((HNM.out.below B6).below hB)
      clear hB k0 k1
      obtain ⟨wo, rfl⟩ : ∃ u : World, u = wr := ⟨_, rfl⟩
      by_cases hlt : t < 6
      · obtain ⟨l, hl, hc, hrise, hmem, hsum, hlen, hlm⟩ := kilns_list (t := t) HOK.out hx0 hx1 hy0 hy1 hlt
        obtain ⟨b0, b1⟩ := belowN_bound HOK.out (t := t) (by omega)
        have H1 := implChambersIn_any m (some ⟨q, 0, none⟩) 5 cap xs t x _ HIr.out
        rw [hl, hc] at H1
        have H1 := Lib.hid H1
        obtain ⟨bb, hbb⟩ : ∃ bb, (a == (t : Int)) = bb := ⟨_, rfl⟩
        rw [← HA.out, hbb] at hmem
        have HMEM := Lib.hid hmem; have HRISE := Lib.hid hrise; have HSUM := Lib.hid hsum
        obtain ⟨nm, hnm, hne⟩ := stageNm_some t hlt
        have HNM2 := Lib.hid hnm
        obtain ⟨hn1, hn2, hn3⟩ := hne
        obtain ⟨_, k0, k1⟩ := KBr.out
        have ht5 : (t : Int) ≤ 5 := by omega
        clear hl hc hmem hrise hsum hnm
        go_wp2_with fail
        refine H1.out.mono ?_; rintro e w7 ⟨Q7, q7, d7, rfl, hL7, _, _, hb7⟩
        have KB7 := Lib.hid (KBr.out.below hb7)
        have HI7 := Lib.hid (HIr.out.below hb7)
        have HN7 := Lib.hid (HNr.out.below hb7)
        have HB7 := Lib.hid (HB.out.trans (hb7.mono HB.out.size))
        have HL7 := Lib.hid hL7
        have hq7 : q7 = l.length := hL7.len.symm
        subst hq7
        clear k0 k1 hb7 H1 hL7
        obtain ⟨hk7, k0, k1⟩ := KB7.out
        go_wp2_with fail
        refine (a2Rises_yes Q7 l.length d7 l m _ HL7.out HRISE.out).mono ?_; rintro e w8 ⟨rfl, hb8⟩
        have KB8 := Lib.hid (KB7.out.below hb8)
        have HI8 := Lib.hid (HI7.out.below hb8)
        have HN8 := Lib.hid (HN7.out.below hb8)
        have HB8 := Lib.hid (HB7.out.trans (hb8.mono HB7.out.size))
        have HL8 := Lib.hid (HL7.out.below hb8)
        clear k0 k1 hb8
        obtain ⟨hk8, k0, k1⟩ := KB8.out
        have H2 := a2Has_any Q7 l.length d7 l y _ HL8.out
        rw [HMEM.out] at H2
        have H2 := Lib.hid H2
        have H3 := implStageName_any t _ HN8.out
        rw [HNM2.out] at H3
        have H3 := Lib.hid H3
        have hbx : (bb != bb) = false := by cases bb <;> rfl
        rcases Nat.eq_zero_or_pos t with hz | hp
        · have hp2 : ¬ (0 : Int) < t := by omega
          clear hz
          go_wp2_with fail
          refine H2.out.mono ?_; rintro e w' ⟨rfl, rfl⟩
          go_wp2_with fail
          refine H3.out.mono ?_; rintro e w' ⟨rfl, rfl⟩
          go_wp2_with fail
          go_roundw
          case rel => exact ⟨t + 1, by omega, by go_num, by rw [HSUM.out], HB8.out⟩
          case measure => simp [intOf]; omega
        · have hl2 := hlen hp
          obtain ⟨bq, off, eq, hqb, hcq⟩ := HI8.out.cell (by omega)
          simp only [Option.some.injEq, Addr.mk.injEq, and_true] at eq
          obtain ⟨rfl, rfl⟩ := eq
          have hck := hcq (t - 1) (by omega)
          rw [Nat.zero_add, ← hl2] at hck
          have hp2 : (0 : Int) < t := by omega
          have hp3 : (0 : Int) ≤ (t : Int) - 1 := by omega
          have hp4 : (t : Int) - 1 < 5 := by omega
          have hp5 : ((t : Int) - 1).toNat = t - 1 := by omega
          clear hcq hl2 hlen
          go_wp2_with fail
          refine H2.out.mono ?_; rintro e w' ⟨rfl, rfl⟩
          go_wp2_with fail
          refine H3.out.mono ?_; rintro e w' ⟨rfl, rfl⟩
          go_wp2_with fail
          go_roundw
          case rel => exact ⟨t + 1, by omega, by go_num, by rw [HSUM.out], HB8.out⟩
          case measure => simp [intOf]; omega
      · obtain rfl : t = 6 := by omega
        have hall := belowN_all (ch := m) (xs := xs)
        rw [hall]
        go_wp2_with fail
        go_ret
        exact ⟨rfl, bel_tr B6 HB.out⟩

set_option maxRecDepth 100000 in
theorem lifted (os : Os) (started : os.Started) (H : Type) (enc : TypeId × Value → H) :
    ReturnsInHanded {} Tryd.checked os 4 .any (fun w args => (Rows.fnKilnsSpec.pre enc Tryd.prog Tryd.f4 [] false w args ∧ laidMetH Tryd.prog Rows.fnKilnsRow.laid w) ∧ sizedMet enc Tryd.prog Tryd.f4 (OpenSpec.ofChange Rows.fnKilnsSpec) false w args)
      (Rows.fnKilnsSpec.post enc Tryd.prog Tryd.f4 false true false false) := by
  refine returnsInHanded_of_change_and (C := Tryd.checked) (X := fun w _ => laidMetH Tryd.prog Rows.fnKilnsRow.laid w) (fun _ _ _ hh h => h.of_heap hh) own started (by kernel_rfl) Tryd.func4
    (ChangeSpec.witness_shaped (enc := enc) (C := Tryd.checked) (os := os) (X := fun w _ => laidMetH Tryd.prog Rows.fnKilnsRow.laid w) false (World.doorLaid Tryd.prog 400 os) #[.slice none 0 0, .slice none 0 0] 8 rfl (World.shaped_of_RefB (by kernel_rfl) (by kernel_rfl)) (by kernel_rfl) (by kernel_rfl) (by kernel_rfl) (door_met os _)) ?_
  intro W base args ds gs before hval0 hW _ _ hL _
  have hval : ∀ (j : Nat) t v, Tryd.f4.params[j]? = some t → args[j]? = some v → Value.okWide Tryd.prog W .any base t v := hval0
  have hW' := hW
  obtain ⟨p, q, hA0, hV, rfl, hfz, hnd⟩ := hW
  have hA : DataW.TrodAll enc Tryd.prog W 0 (fun _ => true) true Tryd.f4.params.toList args.toList ds p := hA0
  rw [Tryd.params4] at hA hval
  obtain ⟨v0, vs0, d0, ds0, p0, q0, hargs, rfl, rfl, h0, r0⟩ := trodAll_cons hA
  obtain ⟨v1, vs1, d1, ds1, p1, q1, rfl, rfl, rfl, h1, r1⟩ := trodAll_cons r0
  obtain ⟨rfl, rfl, rfl⟩ := trodAll_nil r1
  obtain rfl : args = #[v0, v1] := by cases args; simp_all
  obtain ⟨gv, hgs⟩ : ∃ gv, gs = [gv] := by obtain ⟨g, t, cs, fuel, d, p', rfl, _⟩ := trodVars_one hV; exact ⟨d, rfl⟩
  have t0 := h0
  have lt0 : ∀ x ∈ p0, x.block < W.heap.size := by obtain ⟨m, hm⟩ := t0; exact DataW.trod_lt m _ _ _ hm
  obtain ⟨A0, n0, c0, rfl⟩ := okWide_slice Tryd.underlying24 (hval 0 24 v0 rfl rfl)
  have hR0 : BysRaw W A0 n0 := param_bys Tryd.underlying24 Tryd.underlying5 (by kernel_rfl) h0
  have t1 := h1
  have lt1 : ∀ x ∈ p1, x.block < W.heap.size := by obtain ⟨m, hm⟩ := t1; exact DataW.trod_lt m _ _ _ hm
  obtain ⟨A1, n1, c1, rfl⟩ := okWide_slice Tryd.underlying24 (hval 1 24 v1 rfl rfl)
  have hR1 : BysRaw W A1 n1 := param_bys Tryd.underlying24 Tryd.underlying5 (by kernel_rfl) h1
  have hN := of_laid hL
  clear hA0 hval0
  refine (walk A0 n0 c0 A1 n1 c1 W hR0 hR1 hN).mono fun e W' ⟨he, bel⟩ => ?_
  subst he
  have hV' := Below.trodVars laidOut bel (by kernel_rfl) hV
  subst hgs
  exact ⟨_, rfl, _, _, _, [], _, q, hW', trodAll_mk1 (shut_bool Tryd.underlying4 _), (trodAll_cons_mk (Below.trod laidOut (by kernel_rfl) (of_decide_eq_true (by kernel_rfl)) t0 bel lt0) (trodAll_cons_mk (Below.trod laidOut (by kernel_rfl) (of_decide_eq_true (by kernel_rfl)) t1 bel lt1) trodAll_mk0)), hV', bel.frame _, fun h => by cases h⟩

theorem row_holds : Rows.FnKilnsSaid :=
  OpenClaim.holds_of_wide 4 Tryd.f4 rfl rfl rfl rfl rfl rfl rfl ⟨rfl, rfl, rfl, rfl, rfl⟩ rfl rfl rfl rfl rfl (by kernel_rfl) Tryd.func4 (by kernel_rfl)
    (of_decide_eq_true (by kernel_rfl)) (by unfold Func.isWrapper; first | (rw [if_pos (by decide +kernel)]; kernel_rfl) | (rw [if_neg (by decide +kernel)]; exact ⟨rfl, rfl⟩))
    (fun os started H enc _ => lifted os started H enc)

theorem proved : Rows.FnKilnsCardSaid :=
  Claim7.holds_tied_plain_at .later [] [.data] true Rows.fnKilnsCard.stood.harness false
    row_holds (fun _ h => by cases h) (by kernel_rfl) (fun _ h => by cases h) fnKilns_row_tie rfl ⟨rfl, rfl⟩ (by kernel_rfl) rfl
    (fun f fn hf hfn => by
      obtain rfl : f = 4 := Option.some.inj ((show Tryd.prog.funcNamed "loop.example/g01042/laws.FnKilns" = some 4 by kernel_rfl).symm.trans hf) |>.symm
      obtain rfl : fn = Tryd.f4 := (Option.some.inj (Tryd.func4.symm.trans hfn)).symm
      exact ⟨by kernel_rfl, fun j t ht => by
        rw [Tryd.params4] at ht
        have hm : t ∈ [24, 24] := by simpa using Array.mem_of_getElem? ht
        have hall : ([24, 24].all fun u => !Tryd.prog.wantsStandIn u) = true := by kernel_rfl
        exact (show Tryd.prog.wantsStandIn t = false by simpa using List.all_eq_true.1 hall t hm)⟩)
    (by kernel_rfl)
end Go.Proofs.YtnccooeaeomjfaaDoor.lawFnKilns
