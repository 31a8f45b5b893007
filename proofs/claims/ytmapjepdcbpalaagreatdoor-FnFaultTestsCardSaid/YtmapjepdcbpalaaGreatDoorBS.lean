/- slices.SortFunc over causes, with the program's own order. -/
import Derived.Test.YtmapjepdcbpalaaGreatDoorOC
import Derived.Test.YtmapjepdcbpalaaGreatDoorCQ3
import Derived.Shelf.SlSortCmp.WholeK
namespace Go.Proofs.YtmapjepdcbpalaaGreatDoor
open Go.RowKit Go.Shelf
set_option linter.unusedVariables false

/-- Draws and new blocks behind a world. -/
def Grew (w w' : World) : Prop := ∃ q os, w' = Go.Sort.grow (w.drewN q) os
theorem Grew.refl (w : World) : Grew w w := ⟨0, #[], by simp [Go.Sort.grow, World.drewN]⟩
theorem Grew.alloc {w w' : World} (h : Grew w w') (o : Obj) : Grew w (w'.alloc o) := by
  obtain ⟨q, os, rfl⟩ := h
  exact ⟨q, os ++ #[o], by rw [Go.Sort.alloc_eq_grow, Go.Sort.grow_grow]⟩
theorem Grew.drewN {w w' : World} (h : Grew w w') (n : Nat) : Grew w (w'.drewN n) := by
  obtain ⟨q, os, rfl⟩ := h
  exact ⟨q + n, os, by simp [Go.Sort.grow, World.drewN, Nat.add_assoc]⟩
theorem Grew.drew {w w' : World} (h : Grew w w') : Grew w w'.drew := h.drewN 1
theorem Grew.trans {w w' w2 : World} (h : Grew w w') (k : Grew w' w2) : Grew w w2 := by
  obtain ⟨q, os, rfl⟩ := k
  obtain ⟨q', os', e⟩ := h.drewN q
  exact ⟨q', os' ++ os, by rw [e, Go.Sort.grow_grow]⟩

theorem Grew.below {w w' : World} (h : Grew w w') : Below w.heap.size w w' := by
  obtain ⟨q, os, rfl⟩ := h
  exact ⟨rfl, rfl, rfl, by simp [Go.Sort.grow, World.drewN], fun k hk => Go.Sort.heap_grow_old (w.drewN q) os hk⟩

def cmp3 (x y : Int) : Int := if x < y then -1 else if y < x then 1 else 0
theorem isNaN64_any (x : Int) (w : World) : Calls Tryz.prog 85 #[.int .i64 x] w fun e w' => e = .returned (.bool false) ∧ Grew w w' := by
  go_enter Tryz.func85, Tryz.ntmps85
  go_wp2
  go_ret
  exact ⟨ret_bool (by simp), Grew.refl _⟩
theorem cmp64_any (x y : Int) (w : World) : Calls Tryz.prog 61 #[.int .i64 x, .int .i64 y] w fun e w' => e = .returned (.int .i64 (cmp3 x y)) ∧ Grew w w' := by
  have h3 : x < y ∨ x = y ∨ y < x := by omega
  rcases h3 with h | h | h
  · have E := Lib.hid (show cmp3 x y = -1 by rw [cmp3, if_pos h])
    go_enter Tryz.func61, Tryz.ntmps61
    go_wp2_with fail
    refine (isNaN64_any _ _).mono ?_; rintro e w1 ⟨rfl, hb1⟩
    go_wp2_with fail
    refine (isNaN64_any _ _).mono ?_; rintro e w2 ⟨rfl, hb2⟩
    go_wp2_with fail
    go_ret
    exact ⟨ret_int (by rw [E.out]), hb1.trans hb2⟩
  · subst h
    have E := Lib.hid (show cmp3 x x = 0 by simp [cmp3])
    go_enter Tryz.func61, Tryz.ntmps61
    go_wp2_with fail
    refine (isNaN64_any _ _).mono ?_; rintro e w1 ⟨rfl, hb1⟩
    go_wp2_with fail
    refine (isNaN64_any _ _).mono ?_; rintro e w2 ⟨rfl, hb2⟩
    go_wp2_with fail
    go_ret
    exact ⟨ret_int (by rw [E.out]), hb1.trans hb2⟩
  · have E := Lib.hid (show cmp3 x y = 1 by rw [cmp3, if_neg (by omega), if_pos h])
    have h' : ¬ x < y := by omega
    go_enter Tryz.func61, Tryz.ntmps61
    go_wp2_with fail
    refine (isNaN64_any _ _).mono ?_; rintro e w1 ⟨rfl, hb1⟩
    go_wp2_with fail
    refine (isNaN64_any _ _).mono ?_; rintro e w2 ⟨rfl, hb2⟩
    go_wp2_with fail
    go_ret
    exact ⟨ret_int (by rw [E.out]), hb1.trans hb2⟩

/-- The first of two numbers that is not zero. -/
theorem or2_any (g : Nat) (r s : Int) (w : World) (h0 : w.cell? ⟨g, 0, none⟩ = some (.int .i64 r)) (h1 : w.cell? ⟨g, 1, none⟩ = some (.int .i64 s)) :
    Calls Tryz.prog 60 #[.slice (some ⟨g, 0, none⟩) 2 2] w fun e w' => e = .returned (.int .i64 (if r = 0 then s else r)) ∧ Grew w w' := by
  obtain ⟨v, hv⟩ : ∃ v, (if r = 0 then s else r) = v := ⟨_, rfl⟩
  rw [hv]
  have V := Lib.hid hv; clear hv
  go_enter Tryz.func60, Tryz.ntmps60
  go_wp2
  go_loopw [8] (fun i wr => ∃ k : Nat, k ≤ 2 ∧ i = .int .i64 k ∧ (1 ≤ k → r = 0) ∧ (2 ≤ k → s = 0) ∧ Grew w wr ∧ wr.cell? ⟨g, 0, none⟩ = some (.int .i64 r) ∧ wr.cell? ⟨g, 1, none⟩ = some (.int .i64 s)) (fun i _ => 2 - (intOf i).toNat)
  case atStart => exact ⟨0, by omega, rfl, fun h => absurd h (by omega), fun h => absurd h (by omega), Grew.refl _, h0, h1⟩
  case round =>
    obtain ⟨k, hk, rfl, hz0, hz1, hG, c0, c1⟩ := hrel
    have h3 : k = 0 ∨ k = 1 ∨ k = 2 := by omega
    rcases h3 with rfl | rfl | rfl
    · by_cases hr : r = 0
      · subst hr
        go_wp2
        go_roundw
        case rel => exact ⟨1, by omega, by go_num, by simp, fun h => absurd h (by omega), hG, c0, c1⟩
        case measure => simp [intOf]
      · have hr' : (r == 0) = false := by rw [beq_eq_false_iff_ne]; exact hr
        have E := Lib.hid (show v = r by rw [← V.out, if_neg hr])
        go_wp2
        go_ret
        exact ⟨ret_int (by rw [E.out]), hG⟩
    · have hr := hz0 (by omega)
      subst hr
      by_cases hr : s = 0
      · subst hr
        go_wp2
        go_roundw
        case rel => exact ⟨2, by omega, by go_num, by simp, by simp, hG, c0, c1⟩
        case measure => simp [intOf]
      · have hr' : (s == 0) = false := by rw [beq_eq_false_iff_ne]; exact hr
        have E := Lib.hid (show v = s by rw [← V.out, if_pos rfl])
        go_wp2
        go_ret
        exact ⟨ret_int (by rw [E.out]), hG⟩
    · have hs := hz1 (by omega)
      have hr := hz0 (by omega)
      have E := Lib.hid (show v = 0 by rw [← V.out, if_pos hr, hs])
      go_wp2
      go_ret
      exact ⟨ret_int (by rw [E.out]), hG⟩

theorem cmpC_or (a b : Cause) : (if cmp3 a.Kind b.Kind = 0 then cmp3 a.Number b.Number else cmp3 a.Kind b.Kind) = cmpC a b := by
  have e1 : ltC a b = decide (a.Kind < b.Kind ∨ (a.Kind = b.Kind ∧ a.Number < b.Number)) := rfl
  have e2 : ltC b a = decide (b.Kind < a.Kind ∨ (b.Kind = a.Kind ∧ b.Number < a.Number)) := rfl
  rw [cmpC, e1, e2]
  unfold cmp3
  simp only [decide_eq_true_eq]
  repeat' split
  all_goals first | rfl | omega
set_option maxHeartbeats 1000000 in
theorem compareCauses_any (a b : Cause) (w : World) :
    Calls Tryz.prog 39 #[.agg #[.int .i64 a.Kind, .int .i64 a.Number], .agg #[.int .i64 b.Kind, .int .i64 b.Number]] w fun e w' => e = .returned (.int .i64 (cmpC a b)) ∧ Grew w w' := by
  have E := Lib.hid (cmpC_or a b)
  have h1 := cmp64_any a.Kind b.Kind
  have h2 := cmp64_any a.Number b.Number
  rw [← E.out]
  generalize cmp3 a.Kind b.Kind = r at h1 ⊢
  generalize cmp3 a.Number b.Number = s at h2 ⊢
  clear E
  obtain ⟨v, hv⟩ : ∃ v, (if r = 0 then s else r) = v := ⟨_, rfl⟩
  have h3 := fun g W h0 h1 => or2_any g r s W h0 h1
  rw [hv] at h3 ⊢
  clear hv
  have H1 := Lib.hid h1; have H2 := Lib.hid h2; have H3 := Lib.hid h3; clear h1 h2 h3
  go_enter Tryz.func39, Tryz.ntmps39
  go_wp2_with fail
  go_region_held3 (fun w' => w'.cell? ⟨w.heap.size, 0, none⟩ = some (.int .i64 a.Kind) ∧ w'.cell? ⟨w.heap.size, 1, none⟩ = some (.int .i64 a.Number) ∧ w'.cell? ⟨w.heap.size + 1, 0, none⟩ = some (.int .i64 b.Kind) ∧ w'.cell? ⟨w.heap.size + 1, 1, none⟩ = some (.int .i64 b.Number) ∧ w.heap.size + 1 < w'.heap.size ∧ Grew w w')
    ((try refine ⟨?_, ?_, ?_, ?_, ?_, ?_⟩) <;> (go_split_ands; first | with_reducible assumption | with_reducible exact Grew.trans (by assumption) hg1 | with_reducible exact Grew.drew (by assumption) | with_reducible exact Grew.alloc (by assumption) _ | with_reducible exact (((Grew.refl _).alloc _).alloc _).drew | with_reducible exact (hg1.below.cell (p := ⟨w.heap.size, 0, none⟩) (show w.heap.size < _ by omega)).trans (by assumption) | with_reducible exact (hg1.below.cell (p := ⟨w.heap.size, 1, none⟩) (show w.heap.size < _ by omega)).trans (by assumption) | with_reducible exact (hg1.below.cell (p := ⟨w.heap.size + 1, 0, none⟩) (show w.heap.size + 1 < _ by omega)).trans (by assumption) | with_reducible exact (hg1.below.cell (p := ⟨w.heap.size + 1, 1, none⟩) (show w.heap.size + 1 < _ by omega)).trans (by assumption) | exact Nat.lt_of_lt_of_le (by assumption) hg1.below.size | (simp only [World.size_alloc]; omega) | go_keep))
    (first | (go_at_call 61; with_reducible refine (H1.out _).mono ?_; rintro e w1 ⟨rfl, hg1⟩) | (go_at_call 61; with_reducible refine (H2.out _).mono ?_; rintro e w1 ⟨rfl, hg1⟩) | (go_at_call 60; refine (H3.out _ _ (by go_simp) (by go_simp)).mono ?_; rintro e w1 ⟨rfl, hg1⟩))
  all_goals
    go_wp2
    go_ret
    exact ⟨rfl, by go_split_ands; assumption⟩

/-- A row of causes, sorted. -/
def encC (c : Cause) : List Value := [.int .i64 c.Kind, .int .i64 c.Number]
theorem ltOf_cmpC (a b : Cause) : ltOf cmpC a b = ltC a b := by
  unfold ltOf
  rw [Bool.eq_iff_iff, decide_eq_true_eq, cmpC_neg]
theorem swoC : Go.Sort.SWO (ltOf cmpC) where
  irrefl x := by rw [ltOf_cmpC]; exact ltC_irrefl x
  trans x y z h1 h2 := by rw [ltOf_cmpC] at *; exact ltC_trans h1 h2
  ntrans x y z h1 h2 := by rw [ltOf_cmpC] at *; exact ltC_ntrans h1 h2
theorem holds_row {w : World} {g n : Nat} {l : List Cause} (h : RowFCause w g n (nt l)) (hl : l.length = n) : Go.Sort.HoldsK encC 2 w g 0 l.toArray := fun j hj => by
  rw [Go.Sort.size_flatK] at hj
  have hj' : j < n * 2 := by simpa [hl] using hj
  rw [Go.Sort.get_flatK _ _ _ _ hj, Nat.zero_add]
  have hq : j / 2 < n := by omega
  obtain ⟨h0, h1⟩ := h.cell (j / 2) hq
  have e : j = j / 2 * 2 + j % 2 := by omega
  have hr : j % 2 < 2 := Nat.mod_lt _ (by omega)
  have ex : l.toArray[j / 2]! = nt l (j / 2) := by
    rw [nt_lt (by rw [hl]; exact hq), getElem!_pos l.toArray (j / 2) (by simpa [hl] using hq)]; simp
  refine ⟨?_, h.frozen _⟩
  rw [ex]
  generalize j / 2 = q at *
  generalize j % 2 = r at *
  subst e
  match r, hr with
  | 0, _ => exact h0
  | 1, _ => exact h1
theorem row_holds {w : World} {g n : Nat} {d : Array Cause} (h : Go.Sort.HoldsK encC 2 w g 0 d) (hd : d.size = n) (hg : g < w.heap.size) (hz : ∀ o, w.frozen? ⟨g, o, none⟩ = false) : RowFCause w g n (nt d.toList) :=
  ⟨hg, fun j hj => by
    have hj' : j < d.size := by omega
    have ex : d[j]! = nt d.toList j := by
      rw [nt_lt (by simpa using hj'), getElem!_pos d j hj']; simp
    have c0 := (h.cell (i := j) (c := 0) hj' (by omega)).1
    have c1 := (h.cell (i := j) (c := 1) hj' (by omega)).1
    rw [ex, Nat.zero_add] at c0 c1
    exact ⟨c0, c1⟩, hz⟩
theorem grown_sortW {w : World} {g m : Nat} {d : Array Cause} {os : Array Obj} (hg : g < w.heap.size) : w.grownBy (sortWorldK encC 2 w g 0 m d os) (some g) where
  os := rfl
  tape := rfl
  output := rfl
  size := size_sortWorldK_c encC 2 w g 0 m d os
  block := fun i hi hne => by
    unfold sortWorldK
    rw [Go.Sort.heap_grow_old _ _ (by simpa [Go.Sort.putRowK] using hi)]
    show ((w.heap.modify g _)[i]?) = _
    rw [Array.getElem?_modify, if_neg (fun h => hne (by rw [h]))]
/-- What slices.SortFunc leaves. -/
def Sorted (l : List Cause) (g n : Nat) (w : World) (e : Ending) (w' : World) : Prop :=
  e = .returned (.tuple #[]) ∧ ∃ l', l'.length = n ∧ l'.Perm l ∧ l'.Pairwise (fun a b => ltC b a = false) ∧ RowFCause w' g n (nt l') ∧ w.grownBy w' (some g)
/-- The library's sort as it lies here (the numbers are this seat's). -/
def Tryz.sortCause_ren : Go.Shelf.Ren := ⟨fun | 6 => 38 | 15 => 59 | 14 => 58 | 28 => 83 | 29 => 84 | 20 => 75 | 21 => 76 | 22 => 77 | 23 => 78 | 24 => 79 | 25 => 80 | 26 => 81 | 27 => 82 | 46 => 100 | 47 => 101 | 48 => 102 | 49 => 103 | 50 => 104 | 57 => 116 | n => n, fun | 22 => 26 | 24 => 33 | 25 => 71 | 3 => 3 | 39 => 88 | 0 => 0 | 53 => 106 | 55 => 63 | 4 => 4 | 46 => 99 | 45 => 98 | 50 => 103 | 5 => 5 | 9 => 9 | 66 => 123 | 70 => 127 | 76 => 141 | 77 => 142 | n => n, fun | n => n⟩
theorem Tryz.sortCause : Go.Proofs.SlLaysF0.n6 Tryz.prog Tryz.sortCause_ren := {
  mixed := by kernel_rfl,
  f6 := ⟨Tryz.f38.name, by decide, Tryz.func38.trans (congrArg some (by kernel_rfl))⟩,
  f14 := ⟨Tryz.f58.name, by decide, Tryz.func58.trans (congrArg some (by kernel_rfl))⟩,
  f15 := Tryz.func59.trans (congrArg some (by kernel_rfl)),
  f20 := ⟨Tryz.f75.name, by decide, Tryz.func75.trans (congrArg some (by kernel_rfl))⟩,
  f21 := ⟨Tryz.f76.name, by decide, Tryz.func76.trans (congrArg some (by kernel_rfl))⟩,
  f22 := ⟨Tryz.f77.name, by decide, Tryz.func77.trans (congrArg some (by kernel_rfl))⟩,
  f23 := ⟨Tryz.f78.name, by decide, Tryz.func78.trans (congrArg some (by kernel_rfl))⟩,
  f24 := ⟨Tryz.f79.name, by decide, Tryz.func79.trans (congrArg some (by kernel_rfl))⟩,
  f25 := ⟨Tryz.f80.name, by decide, Tryz.func80.trans (congrArg some (by kernel_rfl))⟩,
  f26 := ⟨Tryz.f81.name, by decide, Tryz.func81.trans (congrArg some (by kernel_rfl))⟩,
  f27 := ⟨Tryz.f82.name, by decide, Tryz.func82.trans (congrArg some (by kernel_rfl))⟩,
  f28 := Tryz.func83.trans (congrArg some (by kernel_rfl)),
  f29 := Tryz.func84.trans (congrArg some (by kernel_rfl)),
  f46 := ⟨Tryz.f100.name, by decide, Tryz.func100.trans (congrArg some (by kernel_rfl))⟩,
  f47 := Tryz.func101.trans (congrArg some (by kernel_rfl)),
  f48 := Tryz.func102.trans (congrArg some (by kernel_rfl)),
  f49 := ⟨Tryz.f103.name, by decide, Tryz.func103.trans (congrArg some (by kernel_rfl))⟩,
  f50 := ⟨Tryz.f104.name, by decide, Tryz.func104.trans (congrArg some (by kernel_rfl))⟩,
  f57 := ⟨Tryz.f116.name, by decide, Tryz.func116.trans (congrArg some (by kernel_rfl))⟩,
  t0 := Tryz.underlying0,
  a0 := Tryz.isAgg0,
  z0 := Tryz.sizeOf0,
  v0 := Tryz.zeroValue0,
  t3 := Tryz.underlying3,
  a3 := Tryz.isAgg3,
  z3 := Tryz.sizeOf3,
  v3 := Tryz.zeroValue3,
  t4 := Tryz.underlying4,
  a4 := Tryz.isAgg4,
  z4 := Tryz.sizeOf4,
  v4 := Tryz.zeroValue4,
  t5 := Tryz.underlying5,
  a5 := Tryz.isAgg5,
  z5 := Tryz.sizeOf5,
  v5 := Tryz.zeroValue5,
  t9 := Tryz.underlying9,
  a9 := Tryz.isAgg9,
  z9 := Tryz.sizeOf9,
  v9 := Tryz.zeroValue9,
  t22 := Tryz.underlying26,
  a22 := Tryz.isAgg26,
  z22 := Tryz.sizeOf26,
  v22 := Tryz.zeroValue26,
  t25 := Tryz.underlying71,
  a25 := Tryz.isAgg71,
  z25 := Tryz.sizeOf71,
  v25 := Tryz.zeroValue71,
  t39 := Tryz.underlying88,
  a39 := Tryz.isAgg88,
  z39 := Tryz.sizeOf88,
  v39 := Tryz.zeroValue88,
  t45 := Tryz.underlying98,
  a45 := Tryz.isAgg98,
  z45 := Tryz.sizeOf98,
  v45 := Tryz.zeroValue98,
  t46 := Tryz.underlying99,
  a46 := Tryz.isAgg99,
  z46 := Tryz.sizeOf99,
  v46 := Tryz.zeroValue99,
  t50 := Tryz.underlying103,
  a50 := Tryz.isAgg103,
  z50 := Tryz.sizeOf103,
  v50 := Tryz.zeroValue103,
  t53 := Tryz.underlying106,
  a53 := Tryz.isAgg106,
  z53 := Tryz.sizeOf106,
  v53 := Tryz.zeroValue106,
  t55 := Tryz.underlying63,
  a55 := Tryz.isAgg63,
  z55 := Tryz.sizeOf63,
  v55 := Tryz.zeroValue63,
  t66 := Tryz.underlying123,
  a66 := Tryz.isAgg123,
  z66 := Tryz.sizeOf123,
  v66 := Tryz.zeroValue123,
  t70 := Tryz.underlying127,
  a70 := Tryz.isAgg127,
  z70 := Tryz.sizeOf127,
  v70 := Tryz.zeroValue127,
  t76 := Tryz.underlying141,
  a76 := Tryz.isAgg141,
  z76 := Tryz.sizeOf141,
  v76 := Tryz.zeroValue141,
  t77 := Tryz.underlying142,
  a77 := Tryz.isAgg142,
  z77 := Tryz.sizeOf142,
  v77 := Tryz.zeroValue142 }
theorem eg_cmpC : ∀ args w, (callFunc 39 args).run Tryz.prog w = .ok (.enter 39 args) w := enters_of Tryz.func39 (by kernel_rfl) rfl
theorem sortC_any (g n cap : Nat) (l : List Cause) (w : World) (hl : l.length = n) (hn : n ≤ 1048576) (hR : RowFCause w g n (nt l)) :
    Calls Tryz.prog 38 #[.slice (some ⟨g, 0, none⟩) n cap, .func (.func 39) #[] #[]] w (Sorted l g n w) := by
  have hcon := AnyQ.slices_SortFunc Tryz.sortCause 2 Tryz.isAgg33 Tryz.sizeOf33 encC (fun _ => rfl) (fun x v hv => by simp [encC] at hv; rcases hv with rfl | rfl <;> rfl) cmpC swoC 39 #[] g 0 cap l.toArray w eg_cmpC (fun m os dk hs x y => compareCauses_any x y _) (holds_row hR hl) hR.lt (by simp [hl]; omega)
  rw [show l.toArray.size = n by simp [hl]] at hcon
  refine hcon.mono ?_
  rintro e w' ⟨he, d', m, os, ⟨hp1, hp2, hp3⟩, hs, rfl⟩
  have hd : d'.size = n := by rw [hp1]; simp [hl]
  refine ⟨he, d'.toList, by simp [hd], ?_, ?_, row_holds (holdsK_sortWorldK_c encC 2 w g 0 l.toArray d' m os (holds_row hR hl) hR.lt hp1) hd ?_ ?_, grown_sortW hR.lt⟩
  · have e1 : d'.extract 0 n = d' := by rw [← hd]; simp
    have e2 : l.toArray.extract 0 n = l.toArray := by rw [← hl]; simp
    rw [e1, e2] at hp3; simpa using hp3
  · refine List.pairwise_iff_getElem.2 fun i j hi hj hij => ?_
    have hj' : j < d'.size := by simpa using hj
    have := hs i j (Nat.zero_le _) hij (by omega)
    rw [ltOf_cmpC, getElem!_pos d' j hj', getElem!_pos d' i (by omega)] at this
    simpa using this
  · exact Nat.lt_of_lt_of_le hR.lt (size_sortWorldK_c encC 2 w g 0 m d' os)
  · intro o
    unfold sortWorldK
    rw [Go.Sort.frozen?_grow _ _ _ (by simpa [Go.Sort.putRowK] using hR.lt)]
    show (Go.Sort.putRow id _ g 0 _).frozen? _ = false
    rw [Go.Sort.frozen?_putRow]; exact hR.frozen o
end Go.Proofs.YtmapjepdcbpalaaGreatDoor
