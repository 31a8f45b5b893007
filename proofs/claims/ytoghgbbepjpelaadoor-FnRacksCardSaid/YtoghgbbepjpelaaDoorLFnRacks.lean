/- FnRacks returns true for every input, and the argument reads afterwards as it read before; the listed tables hold what the program's text lays (tied). No condition. -/
import Derived.Test.YtoghgbbepjpelaaDoorLB
import Derived.Test.YtoghgbbepjpelaaDoorRD7
import Derived.Test.YtoghgbbepjpelaaDoorRP
import Derived.Test.YtoghgbbepjpelaaDoorRT
import Derived.Test.YtoghgbbepjpelaaDoorLc0
import Derived.Test.YtoghgbbepjpelaaDoorFr
import Derived.Test.YtoghgbbepjpelaaDoorTie
import Derived.Test.YtoghgbbepjpelaaDoorCards
import Derived.Stop.Joined
import Derived.SevenTiedAt
import Derived.Lay
namespace Go.Proofs.YtoghgbbepjpelaaDoor.lawFnRacks
open Go.ChangeShapes Go.WideShapes Go.ChangeAt Go.WideMaps Go.WideElems Go.RowKit Go.Joins
set_option linter.unusedVariables false

theorem own : ownKnob Tryd.prog.godebug = none := by kernel_rfl
theorem laidOut : laidOutB Tryd.prog = true := by kernel_rfl
theorem door_met (os : Os) (args : Array Value) : laidMetH Tryd.prog Rows.fnRacksRow.laid ((World.doorLaid Tryd.prog 400 os).forCall (fun _ _ => 0) ⟨#[], args, []⟩).memory :=
  laidMetH_of_parts3 (fuel := 8) (laidMet_of_run' 8 (by kernel_rfl) (by kernel_rfl)) (by kernel_rfl) (by kernel_rfl)

theorem RackC.one {l : List Rack} {v : Value} {w w' : World} {e : Ending} (h : RackC l #[v] w e w') : ∃ A n c, e = .returned (.tuple #[.slice A n c, v]) ∧ RackS w' A n l ∧ Below w.heap.size w w' := by
  obtain ⟨A, n, c, he, hr, _, _, hb⟩ := h
  exact ⟨A, n, c, by simpa using he, hr, hb⟩
theorem RackC.two {l : List Rack} {u v : Value} {w w' : World} {e : Ending} (h : RackC l #[u, v] w e w') : ∃ A n c, e = .returned (.tuple #[.slice A n c, u, v]) ∧ RackS w' A n l ∧ Below w.heap.size w w' := by
  obtain ⟨A, n, c, he, hr, _, _, hb⟩ := h
  exact ⟨A, n, c, by simpa using he, hr, hb⟩
/-- A rack in a block of its own. -/
structure RBoxR (w : World) (b : Nat) (r : Rack) : Prop where
  lt : b < w.heap.size
  c0 : w.cell? ⟨b, 0, none⟩ = some (.int .i64 r.Room)
  c1 : w.cell? ⟨b, 1, none⟩ = some (.int .i64 r.Holds)
  c2 : w.cell? ⟨b, 2, none⟩ = some (.int .i64 r.Since)
  c3 : w.cell? ⟨b, 3, none⟩ = some (.int .i64 r.Needs)
theorem RBoxR.new (W : World) (r : Rack) (t : TypeId) : RBoxR (W.alloc (.cells #[.int .i64 r.Room, .int .i64 r.Holds, .int .i64 r.Since, .int .i64 r.Needs] t)) W.heap.size r :=
  ⟨by simp, by go_simp, by go_simp, by go_simp, by go_simp⟩
theorem RBoxR.below {w w' : World} {b : Nat} {r : Rack} (h : RBoxR w b r) (hb : Below w.heap.size w w') : RBoxR w' b r :=
  ⟨Nat.lt_of_lt_of_le h.lt hb.size, (hb.cell (p := ⟨b, _, none⟩) h.lt).trans h.c0, (hb.cell (p := ⟨b, _, none⟩) h.lt).trans h.c1, (hb.cell (p := ⟨b, _, none⟩) h.lt).trans h.c2, (hb.cell (p := ⟨b, _, none⟩) h.lt).trans h.c3⟩
theorem racks_len (xs : List Rack) {W : World} {A : Option Addr} {n : Nat} (h : RackS W A n xs) : xs.length = n := h.len

set_option maxRecDepth 100000 in
set_option maxHeartbeats 16000000 in
theorem walk (A0 : Option Addr) (n0 c0 : Nat) (w : World) (hR0 : BysRaw w A0 n0) (hE : Tab w) :
    Calls Tryd.prog 4 #[.slice A0 n0 c0] w fun e w' => e = .returned (.bool true) ∧ Below w.heap.size w w' := by
  have hbd0 := hR0.1
  have HE := Lib.hid hE
  clear hE
  by_cases hbig : (4096 : Int) < n0
  · go_enter Tryd.func4, Tryd.ntmps4
    go_wp2_with fail
    refine (f6big_yes _ _ _ _ hbd0 hbig).mono ?_; rintro e w' ⟨rfl, rfl⟩
    go_wp2_with fail
    go_ret
    exact ⟨rfl, by go_grown⟩
  · have HB0 := Lib.hid (hR0.bys (by omega))
    clear hR0
    go_enter Tryd.func4, Tryd.ntmps4
    go_wp2_with fail
    refine (f6big_no _ _ _ _ (by omega)).mono ?_; rintro e w' ⟨rfl, rfl⟩
    go_wp2_with fail
    refine (drawFillRack_any A0 n0 c0 _ HB0.out).mono ?_; rintro e w1 ⟨AX, nX, cX, xs, k, a, b, d, rfl, hX, hnX, B1⟩
    have HX1 := Lib.hid hX
    obtain ⟨fl, hfl⟩ : ∃ l, fiL xs k a b d = l := ⟨_, rfl⟩
    obtain ⟨fc, hfc⟩ : ∃ l, fiC xs k a b d = l := ⟨_, rfl⟩
    obtain ⟨bl, hbl⟩ : ∃ l, emL fl k = l := ⟨_, rfl⟩
    obtain ⟨bv, hbv⟩ : ∃ l, emV fl k = l := ⟨_, rfl⟩
    obtain ⟨bc, hbc⟩ : ∃ l, emC fl k = l := ⟨_, rfl⟩
    have D1 := Lib.hid (fi_cases xs k a b d hfc hfl hbl hbv hbc)
    have H1 := Lib.hid (fun W hW => implFillRack_any AX nX cX xs k a b d W hW)
    have H2 := Lib.hid (fun W hW => specFillRack_any AX nX cX xs k a b d W hW)
    have H9 := Lib.hid (fun A n c W hW => implEmptyRack_any A n c fl k W hW)
    rw [hfl, hfc] at H1 H2
    rw [hbl, hbv, hbc] at H9
    clear hfl hfc hbl hbv hbc hX
    go_wp2_with fail
    refine (H1.out _ HX1.out).mono ?_; intro e w2 hc
    obtain ⟨AP, nP, cP, rfl, hr, hb⟩ := RackC.one hc
    clear hc
    have HX2 := Lib.hid (HX1.out.below hb)
    clear HX1
    have HP2 := Lib.hid hr
    have B2 := bel_tr B1 hb
    clear hr hb B1
    go_wp2_with fail
    refine (H2.out _ HX2.out).mono ?_; intro e w3 hc
    obtain ⟨AQ, nQ, cQ, rfl, hr, hb⟩ := RackC.one hc
    clear hc
    have HX3 := Lib.hid (HX2.out.below hb)
    have HP3 := Lib.hid (HP2.out.below hb)
    clear HX2 HP2
    have HQ3 := Lib.hid hr
    have B3 := bel_tr B2 hb
    clear hr hb B2
    clear H1 H2
    go_wp2_with fail
    refine (drawEmptyRack_any A0 n0 c0 _ (HB0.out.below B3)).mono ?_; rintro e w4 ⟨AY, nY, cY, ys, m, rfl, hY, hnY, hb⟩
    have HX4 := Lib.hid (HX3.out.below hb)
    have HP4 := Lib.hid (HP3.out.below hb)
    have HQ4 := Lib.hid (HQ3.out.below hb)
    clear HX3 HP3 HQ3
    have HY4 := Lib.hid hY
    have B4 := bel_tr B3 hb
    obtain ⟨el, hel⟩ : ∃ l, emL ys m = l := ⟨_, rfl⟩
    obtain ⟨ev, hev⟩ : ∃ l, emV ys m = l := ⟨_, rfl⟩
    obtain ⟨ec, hec⟩ : ∃ l, emC ys m = l := ⟨_, rfl⟩
    have D2 := em_cases ys m hec hev hel
    have H1 := Lib.hid (fun W hW => implEmptyRack_any AY nY cY ys m W hW)
    have H2 := Lib.hid (fun W hW => specEmptyRack_any AY nY cY ys m W hW)
    rw [hel, hev, hec] at H1 H2
    obtain ⟨ok, hok⟩ : ∃ t, racksOk el = t := ⟨_, rfl⟩
    rw [hok] at D2
    have D2 := Lib.hid D2; have HOK := Lib.hid hok
    clear hel hev hec hY hb B3 hok
    go_wp2_with fail
    refine (H1.out _ HY4.out).mono ?_; intro e w5 hc
    obtain ⟨AR, nR, cR, rfl, hr, hb⟩ := RackC.two hc
    clear hc
    have HX5 := Lib.hid (HX4.out.below hb)
    have HP5 := Lib.hid (HP4.out.below hb)
    have HQ5 := Lib.hid (HQ4.out.below hb)
    have HY5 := Lib.hid (HY4.out.below hb)
    clear HX4 HP4 HQ4 HY4
    have HR5 := Lib.hid hr
    have B5 := bel_tr B4 hb
    clear hr hb B4
    go_wp2_with fail
    refine (H2.out _ HY5.out).mono ?_; intro e w6 hc
    obtain ⟨AS, nS, cS, rfl, hr, hb⟩ := RackC.two hc
    clear hc
    have HX6 := Lib.hid (HX5.out.below hb)
    have HP6 := Lib.hid (HP5.out.below hb)
    have HQ6 := Lib.hid (HQ5.out.below hb)
    have HY6 := Lib.hid (HY5.out.below hb)
    have HR6 := Lib.hid (HR5.out.below hb)
    clear HX5 HP5 HQ5 HY5 HR5
    have HS6 := Lib.hid hr
    have B6 := bel_tr B5 hb
    clear hr hb B5
    clear H1 H2 HY6
    go_wp2_with fail
    refine (drawSpreadBricks_any A0 n0 c0 _ (HB0.out.below B6)).mono ?_; rintro e w7 ⟨AZ, nZ, cZ, zs, u, rfl, hZ, hnZ, hb⟩
    have HX7 := Lib.hid (HX6.out.below hb)
    have HP7 := Lib.hid (HP6.out.below hb)
    have HQ7 := Lib.hid (HQ6.out.below hb)
    have HR7 := Lib.hid (HR6.out.below hb)
    have HS7 := Lib.hid (HS6.out.below hb)
    clear HX6 HP6 HQ6 HR6 HS6
    have HZ7 := Lib.hid hZ
    have HZN := Lib.hid hZ.len
    have B7 := bel_tr B6 hb
    obtain ⟨sl, hsl⟩ : ∃ l, spL zs u = l := ⟨_, rfl⟩
    obtain ⟨sc, hsc⟩ : ∃ l, spC zs u = l := ⟨_, rfl⟩
    have D3 := Lib.hid (sp_cases zs u hsc hsl)
    have H1 := Lib.hid (fun W hW => implSpreadBricks_any AZ nZ cZ zs u W hW)
    have H2 := Lib.hid (fun W hW => specSpreadBricks_any AZ nZ cZ zs u W hW)
    rw [hsl, hsc] at H1 H2
    clear hsl hsc hZ hb B6
    go_wp2_with fail
    refine (H1.out _ HZ7.out).mono ?_; rintro e w8 ⟨AI, nI, cI, rfl, hr, _, _, hb⟩
    have HX8 := Lib.hid (HX7.out.below hb)
    have HP8 := Lib.hid (HP7.out.below hb)
    have HQ8 := Lib.hid (HQ7.out.below hb)
    have HR8 := Lib.hid (HR7.out.below hb)
    have HS8 := Lib.hid (HS7.out.below hb)
    have HZ8 := Lib.hid (HZ7.out.below hb)
    clear HX7 HP7 HQ7 HR7 HS7 HZ7
    have HI8 := Lib.hid hr
    have B8 := bel_tr B7 hb
    clear hr hb B7
    go_wp2_with fail
    refine (H2.out _ HZ8.out).mono ?_; rintro e w9 ⟨AJ, nJ, cJ, rfl, hr, _, _, hb⟩
    have HX9 := Lib.hid (HX8.out.below hb)
    have HP9 := Lib.hid (HP8.out.below hb)
    have HQ9 := Lib.hid (HQ8.out.below hb)
    have HR9 := Lib.hid (HR8.out.below hb)
    have HS9 := Lib.hid (HS8.out.below hb)
    have HZ9 := Lib.hid (HZ8.out.below hb)
    have HI9 := Lib.hid (HI8.out.below hb)
    clear HX8 HP8 HQ8 HR8 HS8 HZ8 HI8
    have HJ9 := Lib.hid hr
    have HJN := Lib.hid hr.len
    have B9 := bel_tr B8 hb
    clear hr hb B8
    clear H1 H2
    go_wp2_with fail
    refine (drawRackText_any A0 n0 c0 _ (HB0.out.below B9)).mono ?_; rintro e w10 ⟨r, rfl, hb⟩
    have HX10 := Lib.hid (HX9.out.below hb)
    have HP10 := Lib.hid (HP9.out.below hb)
    have HQ10 := Lib.hid (HQ9.out.below hb)
    have HR10 := Lib.hid (HR9.out.below hb)
    have HS10 := Lib.hid (HS9.out.below hb)
    have HZ10 := Lib.hid (HZ9.out.below hb)
    have HI10 := Lib.hid (HI9.out.below hb)
    have HJ10 := Lib.hid (HJ9.out.below hb)
    clear HX9 HP9 HQ9 HR9 HS9 HZ9 HI9 HJ9
    have B10 := bel_tr B9 hb
    have hz10 := B10.size
    obtain ⟨tx, htx⟩ : ∃ t, rackS r = t := ⟨_, rfl⟩
    have T1 := Lib.hid (fun W hT => implRackText_any r W hT)
    have T2 := Lib.hid (fun W => specRackText_any r W)
    rw [htx] at T1 T2
    clear hb B9 htx
    have BX := Lib.hid (RBoxR.new w10 r 43)
    go_wp2_with fail
    have A10 : Below w10.heap.size w10 (w10.alloc (.cells #[.int .i64 r.Room, .int .i64 r.Holds, .int .i64 r.Since, .int .i64 r.Needs] 43)) := (Below.refl _ _).alloc (Nat.le_refl _) _
    refine (drawSameRacks_any A0 n0 c0 _ (HB0.out.below (bel_tr B10 A10))).mono ?_; rintro e w11 ⟨AU, nU, cU, us, AV, nV, cV, vs, rfl, hU, hV, hb⟩
    have T11 := bel_tr A10 (hb.mono (by simp))
    have HX11 := Lib.hid (HX10.out.below T11)
    have HP11 := Lib.hid (HP10.out.below T11)
    have HQ11 := Lib.hid (HQ10.out.below T11)
    have HR11 := Lib.hid (HR10.out.below T11)
    have HS11 := Lib.hid (HS10.out.below T11)
    have HZ11 := Lib.hid (HZ10.out.below T11)
    have HI11 := Lib.hid (HI10.out.below T11)
    have HJ11 := Lib.hid (HJ10.out.below T11)
    clear HX10 HP10 HQ10 HR10 HS10 HZ10 HI10 HJ10
    have HU11 := Lib.hid hU; have HV11 := Lib.hid hV
    have BX11 := Lib.hid (BX.out.below hb)
    have B11 := bel_tr B10 T11
    have HE11 := Lib.hid (HE.out.below B11)
    obtain ⟨ob, hob⟩ : ∃ t, Rack.sameB us vs = t := ⟨_, rfl⟩
    obtain ⟨vb, hvb⟩ : ∃ t, racksOk xs = t := ⟨_, rfl⟩
    have K1 := fun W hA hB => specSameRacks_any AP nP cP fl AQ nQ cQ fl W hA hB
    have K2 := fun W hA hB => specSameRacks_any AR nR cR el AS nS cS el W hA hB
    rw [Rack.sameB_self] at K1 K2
    have K1 := Lib.hid K1; have K2 := Lib.hid K2
    have K3 := Lib.hid (fun W hA hB => implSameRacks_any AU nU cU us AV nV cV vs W hA hB)
    have K4 := Lib.hid (fun W hA hB => specSameRacks_any AU nU cU us AV nV cV vs W hA hB)
    have K5 := Lib.hid (fun W hA => implValidRacks_any AX nX cX xs W hA)
    have K6 := Lib.hid (fun W hA => specValidRacks_any AX nX cX xs W hA)
    rw [hob] at K3 K4
    rw [hvb] at K5 K6
    have K7 := Lib.hid (fun W hA => implValidRacks_any AR nR cR el W hA)
    rw [HOK.out] at K7
    have e1 : (fc != fc) = false := by simp
    have e2 : (ec != ec) = false := by simp
    have e3 : (ev != ev) = false := by simp
    have e4 : (sc != sc) = false := by simp
    have e5 : (ob != ob) = false := by simp
    have e6 : (vb != vb) = false := by simp
    have hz11 := hb.size
    simp only [World.size_alloc] at hz11
    clear hU hV hob hvb T11 A10 hb BX B10 HE HOK
    obtain ⟨hx0, x0, x1, x2, x3⟩ := BX11.out
    clear BX11
    go_upto_region 14 with fail
    go_cut [162] (fun v wx => v = .bool false ∧ Below w11.heap.size w11 wx)
    case first =>
      as_aux_lemma =>
        go_region_held3 (fun w' => w'.cell? ⟨w10.heap.size, 0, none⟩ = some (.int .i64 r.Room) ∧ w'.cell? ⟨w10.heap.size, 1, none⟩ = some (.int .i64 r.Holds) ∧ w'.cell? ⟨w10.heap.size, 2, none⟩ = some (.int .i64 r.Since) ∧ w'.cell? ⟨w10.heap.size, 3, none⟩ = some (.int .i64 r.Needs) ∧ w10.heap.size < w'.heap.size ∧ Below w11.heap.size w11 w')
          ((try refine ⟨?_, ?_, ?_, ?_, ?_, ?_⟩) <;> (first | go_keep | (go_grown; done) | (go_split_ands; first | exact (hb1.cell (p := ⟨_, _, none⟩) (by assumption)).trans (by assumption) | exact Nat.lt_of_lt_of_le (by assumption) hb1.size | exact bel_tr (by assumption) hb1)))
          (first
            | (go_at_call 23
               (first | (with_reducible refine (K1.out _ (HP11.out.below (by first | (go_grown; done) | (go_split_ands; assumption))) (HQ11.out.below (by first | (go_grown; done) | (go_split_ands; assumption)))).mono ?_) | (with_reducible refine (K2.out _ (HR11.out.below (by first | (go_grown; done) | (go_split_ands; assumption))) (HS11.out.below (by first | (go_grown; done) | (go_split_ands; assumption)))).mono ?_) | (with_reducible refine (K4.out _ (HU11.out.below (by first | (go_grown; done) | (go_split_ands; assumption))) (HV11.out.below (by first | (go_grown; done) | (go_split_ands; assumption)))).mono ?_))
               rintro e wz ⟨rfl, hb1⟩)
            | (go_at_call 24; refine (f6ints_yes _ _ _ _ _ _ sl _ (HI11.out.below (by first | (go_grown; done) | (go_split_ands; assumption))) (HJ11.out.below (by first | (go_grown; done) | (go_split_ands; assumption)))).mono ?_; rintro e wz ⟨rfl, hb1⟩)
            | (go_at_call 25; refine (T1.out _ (HE11.out.below (by first | (go_grown; done) | (go_split_ands; assumption)))).mono ?_; rintro e wz ⟨rfl, hb1⟩)
            | (go_at_call 26; refine (T2.out _).mono ?_; rintro e wz ⟨rfl, hb1⟩)
            | (go_at_call 27; refine (K3.out _ (HU11.out.below (by first | (go_grown; done) | (go_split_ands; assumption))) (HV11.out.below (by first | (go_grown; done) | (go_split_ands; assumption)))).mono ?_; rintro e wz ⟨rfl, hb1⟩)
            | (go_at_call 28; refine (K5.out _ (HX11.out.below (by first | (go_grown; done) | (go_split_ands; assumption)))).mono ?_; rintro e wz ⟨rfl, hb1⟩)
            | (go_at_call 29; refine (K6.out _ (HX11.out.below (by first | (go_grown; done) | (go_split_ands; assumption)))).mono ?_; rintro e wz ⟨rfl, hb1⟩))
        all_goals
          go_wp2_with fail
          go_meet
          refine ⟨rfl, ?_⟩
          go_split_ands
          assumption
    case rest =>
      as_aux_lemma =>
        obtain ⟨rfl, hcb⟩ := hcut
        obtain ⟨w12, rfl⟩ : ∃ u : World, u = wc := ⟨_, rfl⟩
        have B12 := bel_tr B11 hcb
        have HX12 := Lib.hid (HX11.out.below hcb)
        have HP12 := Lib.hid (HP11.out.below hcb)
        have HR12 := Lib.hid (HR11.out.below hcb)
        have HZ12 := Lib.hid (HZ11.out.below hcb)
        have HJ12 := Lib.hid (HJ11.out.below hcb)
        clear hcb x0 x1 x2 x3 hx0 HX11 HP11 HQ11 HR11 HS11 HZ11 HI11 HJ11 HU11 HV11 HE11 K1 K2 K3 K4 K5 K6 T1 T2 e1 e2 e3 e4 e5 e6
        go_upto_if 164 with fail
        go_cut [29] (fun _ wx => Below w12.heap.size w12 wx)
        case first =>
          as_aux_lemma =>
            rcases D3.out with ⟨rfl, hsl, hok, hu, hS, hsum⟩ | hne
            · have HS := Lib.hid hS; have HSUM := Lib.hid hsum
              have hnJ : nJ = nZ := by rw [← HJN.out, hsl, HZN.out]
              subst hnJ
              have hZN := HZN.out
              have hroom := Lib.hid (fun j (hj : j < zs.length) => (okB_at hok hj : (nt zs j).okB = true))
              clear hsl hok hS hsum
              go_wp2_with fail
              go_loopw [29] (fun t wr => ∃ j : Nat, j ≤ nJ ∧ t = .int .i64 (j : Int) ∧ Below w12.heap.size w12 wr) (fun t _ => nJ - (intOf t).toNat)
              case atStart => exact ⟨0, Nat.zero_le _, rfl, Below.refl _ _⟩
              case round =>
                obtain ⟨j, hj, rfl, hb⟩ := hrel
                have HB := Lib.hid hb
                by_cases hlt : j < nJ
                · obtain ⟨s0, s1, s2⟩ := HS.out j (by omega)
                  obtain ⟨bb, off, rfl, _, hcell⟩ := (HJ12.out.below hb).cell (by omega)
                  have hck := hcell j hlt
                  obtain ⟨bx, ox, rfl, _, hcx⟩ := (HZ12.out.below hb).cell (by omega)
                  obtain ⟨y0, y1, y2, y3⟩ := hcx j hlt
                  have g1 : decide (nth sl j < 0) = false := decide_eq_false (by omega)
                  have g2 : decide ((nt zs j).Room < nth sl j) = false := decide_eq_false (by omega)
                  have hw1 : IntKind.i64.wrap ((j : Int) + 1) = (j : Int) + 1 := IntWalk.i64_in _ (by omega)
                  clear hcell hcx hb
                  rcases Int.lt_or_le 0 (nth sl j) with hp | hp
                  · have g3 : decide (0 < nth sl j) = true := decide_eq_true hp
                    have hh := s2 hp
                    have g4 : decide (0 < (nt zs j).Holds) = false := decide_eq_false (by omega)
                    clear s2
                    go_wp2_with fail
                    go_quiet (fail)
                    go_wp2_with fail
                    go_roundw
                    case rel => exact ⟨j + 1, by omega, by go_num, below_drewN HB.out _⟩
                    case measure => simp [intOf]; omega
                  · have g3 : decide (0 < nth sl j) = false := decide_eq_false (by omega)
                    clear s2
                    go_wp2_with fail
                    go_quiet (fail)
                    go_wp2_with fail
                    go_roundw
                    case rel => exact ⟨j + 1, by omega, by go_num, below_drewN HB.out _⟩
                    case measure => simp [intOf]; omega
                · obtain rfl : nJ = j := by omega
                  have hS6 := f6sum_any AJ nJ cJ sl
                  rw [HSUM.out] at hS6
                  have e7 : (u != u) = false := by simp
                  clear hb
                  go_wp2_with fail
                  refine (hS6 _ (HJ12.out.below HB.out)).mono ?_; rintro e wz ⟨rfl, rfl⟩
                  go_wp2_with fail
                  go_meet
                  exact HB.out
            · go_wp2_with fail
              go_meet
              exact Below.refl _ _
        case rest =>
          as_aux_lemma =>
            obtain ⟨w13, rfl⟩ : ∃ u : World, u = wc := ⟨_, rfl⟩
            have B13 := bel_tr B12 hcut
            have HX13 := Lib.hid (HX12.out.below hcut)
            have HP13 := Lib.hid (HP12.out.below hcut)
            have HR13 := Lib.hid (HR12.out.below hcut)
            clear hcut HX12 HP12 HR12 HZ12 HJ12
            go_upto_region 24 with fail
            go_cut [217] (fun v wx => v = .bool false ∧ Below w13.heap.size w13 wx)
            case first =>
              as_aux_lemma =>
                rcases D2.out with ⟨rfl, hev, rfl⟩ | hne
                · have g1 : decide (ev < 1) = false := decide_eq_false (by omega)
                  go_wp2_with fail
                  refine (K7.out _ HR13.out).mono ?_; rintro e wz ⟨rfl, hb1⟩
                  go_wp2_with fail
                  go_meet
                  exact ⟨rfl, hb1⟩
                · go_wp2_with fail
                  go_meet
                  exact ⟨rfl, Below.refl _ _⟩
            case rest =>
              as_aux_lemma =>
                obtain ⟨rfl, hcb⟩ := hcut
                obtain ⟨w14, rfl⟩ : ∃ u : World, u = wc := ⟨_, rfl⟩
                have B14 := bel_tr B13 hcb
                have HX14 := Lib.hid (HX13.out.below hcb)
                have HP14 := Lib.hid (HP13.out.below hcb)
                clear hcb HX13 HP13 HR13 K7 D2 D3
                rcases D1.out with ⟨rfl, rfl, rfl, rfl⟩ | hne
                · have K8 := fun A n c W hA hB => specSameRacks_any A n c bl AX nX cX bl W hA hB
                  rw [Rack.sameB_self] at K8
                  have K8 := Lib.hid K8
                  go_wp2_with fail
                  refine (H9.out _ _ _ _ HP14.out).mono ?_; intro e w15 hc
                  obtain ⟨AT, nT, cT, rfl, hr, hb⟩ := RackC.two hc
                  have HT15 := Lib.hid hr
                  have HX15 := Lib.hid (HX14.out.below hb)
                  have B15 := bel_tr B14 hb
                  clear hc hr hb
                  go_wp2_with fail
                  refine (K8.out _ _ _ _ HT15.out HX15.out).mono ?_; rintro e w16 ⟨rfl, hb1⟩
                  have B16 := bel_tr B15 hb1
                  go_wp2_with fail
                  go_ret
                  exact ⟨ret_bool (by simp), B16⟩
                · go_wp2_with fail
                  go_ret
                  exact ⟨rfl, B14⟩

set_option maxRecDepth 100000 in
theorem lifted (os : Os) (started : os.Started) (H : Type) (enc : TypeId × Value → H) :
    ReturnsInHanded {} Tryd.checked os 4 .any (fun w args => (Rows.fnRacksSpec.pre enc Tryd.prog Tryd.f4 [] false w args ∧ laidMetH Tryd.prog Rows.fnRacksRow.laid w) ∧ sizedMet enc Tryd.prog Tryd.f4 (OpenSpec.ofChange Rows.fnRacksSpec) false w args)
      (Rows.fnRacksSpec.post enc Tryd.prog Tryd.f4 false true false false) := by
  refine returnsInHanded_of_change_and (C := Tryd.checked) (X := fun w _ => laidMetH Tryd.prog Rows.fnRacksRow.laid w) (fun _ _ _ hh h => h.of_heap hh) own started (by kernel_rfl) Tryd.func4
    (ChangeSpec.witness_shaped (enc := enc) (C := Tryd.checked) (os := os) (X := fun w _ => laidMetH Tryd.prog Rows.fnRacksRow.laid w) false (World.doorLaid Tryd.prog 400 os) #[.slice none 0 0] 8 rfl (World.shaped_of_RefB (by kernel_rfl) (by kernel_rfl)) (by kernel_rfl) (by kernel_rfl) (by kernel_rfl) (door_met os _)) ?_
  intro W base args ds gs before hval0 hW _ _ hL _
  have hval : ∀ (j : Nat) t v, Tryd.f4.params[j]? = some t → args[j]? = some v → Value.okWide Tryd.prog W .any base t v := hval0
  have hW' := hW
  obtain ⟨p, q, hA0, hV, rfl, hfz, hnd⟩ := hW
  have hA : DataW.TrodAll enc Tryd.prog W 0 (fun _ => true) true Tryd.f4.params.toList args.toList ds p := hA0
  rw [Tryd.params4] at hA hval
  obtain ⟨v0, vs0, d0, ds0, p0, q0, hargs, rfl, rfl, h0, r0⟩ := trodAll_cons hA
  obtain ⟨rfl, rfl, rfl⟩ := trodAll_nil r0
  obtain rfl : args = #[v0] := by cases args; simp_all
  obtain ⟨rfl, rfl⟩ := trodVars_none hV
  have t0 := h0
  have lt0 : ∀ x ∈ p0, x.block < W.heap.size := by obtain ⟨m, hm⟩ := t0; exact DataW.trod_lt m _ _ _ hm
  obtain ⟨A0, n0, c0, rfl⟩ := okWide_slice Tryd.underlying29 (hval 0 29 v0 rfl rfl)
  have hR0 : BysRaw W A0 n0 := param_bys Tryd.underlying29 Tryd.underlying5 (by kernel_rfl) h0
  have hL0 : laidMet Tryd.prog Rows.fnRacksRow.laid W := by rw [MakeChecks.laidMetH_plain _ _ _ (by kernel_rfl)] at hL; exact hL
  have hE : Tab W := tab_of hL0.tail.tail
  clear hA0 hval0
  refine (walk A0 n0 c0 W hR0 hE).mono fun e W' ⟨he, bel⟩ => ?_
  subst he
  exact ⟨_, rfl, _, _, _, [], _, [], hW', trodAll_mk1 (shut_bool Tryd.underlying4 _), (trodAll_cons_mk (Below.trod laidOut (by kernel_rfl) (of_decide_eq_true (by kernel_rfl)) t0 bel lt0) trodAll_mk0), rfl, bel.frame _, fun h => by cases h⟩

theorem row_holds : Rows.FnRacksSaid :=
  OpenClaim.holds_of_wide 4 Tryd.f4 rfl rfl rfl rfl rfl rfl rfl ⟨rfl, rfl, rfl, rfl, rfl⟩ rfl rfl rfl rfl rfl (by kernel_rfl) Tryd.func4 (by kernel_rfl)
    (of_decide_eq_true (by kernel_rfl)) (by unfold Func.isWrapper; first | (rw [if_pos (by decide +kernel)]; kernel_rfl) | (rw [if_neg (by decide +kernel)]; exact ⟨rfl, rfl⟩))
    (fun os started H enc _ => lifted os started H enc)

theorem proved : Rows.FnRacksCardSaid :=
  Claim7.holds_tied_plain_at .later [] [.data, .data, .data] true Rows.fnRacksCard.stood.harness true
    row_holds (fun _ h => by cases h) (by kernel_rfl) (fun _ h => by cases h) fnRacks_row_tie rfl ⟨rfl, rfl⟩ (by kernel_rfl) rfl
    (fun f fn hf hfn => by
      obtain rfl : f = 4 := Option.some.inj ((show Tryd.prog.funcNamed "loop.example/g01042/laws.FnRacks" = some 4 by kernel_rfl).symm.trans hf) |>.symm
      obtain rfl : fn = Tryd.f4 := (Option.some.inj (Tryd.func4.symm.trans hfn)).symm
      exact ⟨by kernel_rfl, fun j t ht => by
        rw [Tryd.params4] at ht
        have hm : t ∈ [29] := by simpa using Array.mem_of_getElem? ht
        have hall : ([29].all fun u => !Tryd.prog.wantsStandIn u) = true := by kernel_rfl
        exact (show Tryd.prog.wantsStandIn t = false by simpa using List.all_eq_true.1 hall t hm)⟩)
    (by kernel_rfl)
end Go.Proofs.YtoghgbbepjpelaaDoor.lawFnRacks
