/- slices.SortFunc over causes, with the program's own order. -/
import Derived.Test.YtmapjepdcbpalaaOC
import Derived.Test.YtmapjepdcbpalaaCQ3
import Derived.Shelf.SlSortCmp.WholeK
namespace Go.Proofs.Ytmapjepdcbpalaa
open Go.RowKit Go.Shelf
set_option linter.unusedVariables false

/-- Draws and new blocks behind a world. -/
def Grew (w w' : World) : Prop := ∃ q os, w' = Go.Sort.grow (w.drewN q) os
theorem Grew.refl (w : World) : Grew w w := ⟨0, #[], by simp [Go.Sort.grow, World.drewN]⟩
theorem Grew.alloc {w w' : World} (h : Grew w w') (o : Obj) : Grew w (w'.alloc o) := by
  obtain ⟨q, os, rfl⟩ := h
  exact ⟨q, os ++ #[o], by rw [Go.Sort.alloc_eq_grow, Go.Sort.grow_grow]⟩
theorem Grew.drewN {w w' : World} (h : Grew w w') (n : Nat) : Grew w (w'.drewN n) := by
  obtain ⟨q, os, rfl⟩ := h
  exact ⟨q + n, os, by simp [Go.Sort.grow, World.drewN, Nat.add_assoc]⟩
theorem Grew.drew {w w' : World} (h : Grew w w') : Grew w w'.drew := h.drewN 1
theorem Grew.trans {w w' w2 : World} (h : Grew w w') (k : Grew w' w2) : Grew w w2 := by
  obtain ⟨q, os, rfl⟩ := k
  obtain ⟨q', os', e⟩ := h.drewN q
  exact ⟨q', os' ++ os, by rw [e, Go.Sort.grow_grow]⟩

theorem Grew.below {w w' : World} (h : Grew w w') : Below w.heap.size w w' := by
  obtain ⟨q, os, rfl⟩ := h
  exact ⟨rfl, rfl, rfl, by simp [Go.Sort.grow, World.drewN], fun k hk => Go.Sort.heap_grow_old (w.drewN q) os hk⟩

def cmp3 (x y : Int) : Int := if x < y then -1 else if y < x then 1 else 0
theorem isNaN64_any (x : Int) (w : World) : Calls Try.prog 105 #[.int .i64 x] w fun e w' => e = .returned (.bool false) ∧ Grew w w' := by
  go_enter Try.func105, Try.ntmps105
  go_wp2
  go_ret
  exact ⟨ret_bool (by simp), Grew.refl _⟩
theorem cmp64_any (x y : Int) (w : World) : Calls Try.prog 95 #[.int .i64 x, .int .i64 y] w fun e w' => e = .returned (.int .i64 (cmp3 x y)) ∧ Grew w w' := by
  have h3 : x < y ∨ x = y ∨ y < x := by omega
  rcases h3 with h | h | h
  · have E := Lib.hid (show cmp3 x y = -1 by rw [cmp3, if_pos h])
    go_enter Try.func95, Try.ntmps95
    go_wp2_with fail
    refine (isNaN64_any _ _).mono ?_; rintro e w1 ⟨rfl, hb1⟩
    go_wp2_with fail
    refine (isNaN64_any _ _).mono ?_; rintro e w2 ⟨rfl, hb2⟩
    go_wp2_with fail
    go_ret
    exact ⟨ret_int (by rw [E.out]), hb1.trans hb2⟩
  · subst h
    have E := Lib.hid (show cmp3 x x = 0 by simp [cmp3])
    go_enter Try.func95, Try.ntmps95
    go_wp2_with fail
    refine (isNaN64_any _ _).mono ?_; rintro e w1 ⟨rfl, hb1⟩
    go_wp2_with fail
    refine (isNaN64_any _ _).mono ?_; rintro e w2 ⟨rfl, hb2⟩
    go_wp2_with fail
    go_ret
    exact ⟨ret_int (by rw [E.out]), hb1.trans hb2⟩
  · have E := Lib.hid (show cmp3 x y = 1 by rw [cmp3, if_neg (by omega), if_pos h])
    have h' : ¬ x < y := by omega
    go_enter Try.func95, Try.ntmps95
    go_wp2_with fail
    refine (isNaN64_any _ _).mono ?_; rintro e w1 ⟨rfl, hb1⟩
    go_wp2_with fail
    refine (isNaN64_any _ _).mono ?_; rintro e w2 ⟨rfl, hb2⟩
    go_wp2_with fail
    go_ret
    exact ⟨ret_int (by rw [E.out]), hb1.trans hb2⟩

/-- The first of two numbers that is not zero. -/
theorem or2_any (g : Nat) (r s : Int) (w : World) (h0 : w.cell? ⟨g, 0, none⟩ = some (.int .i64 r)) (h1 : w.cell? ⟨g, 1, none⟩ = some (.int .i64 s)) :
    Calls Try.prog 94 #[.slice (some ⟨g, 0, none⟩) 2 2] w fun e w' => e = .returned (.int .i64 (if r = 0 then s else r)) ∧ Grew w w' := by
  obtain ⟨v, hv⟩ : ∃ v, (if r = 0 then s else r) = v := ⟨_, rfl⟩
  rw [hv]
  have V := Lib.hid hv; clear hv
  go_enter Try.func94, Try.ntmps94
  go_wp2
  go_loopw [8] (fun i wr => ∃ k : Nat, k ≤ 2 ∧ i = .int .i64 k ∧ (1 ≤ k → r = 0) ∧ (2 ≤ k → s = 0) ∧ Grew w wr ∧ wr.cell? ⟨g, 0, none⟩ = some (.int .i64 r) ∧ wr.cell? ⟨g, 1, none⟩ = some (.int .i64 s)) (fun i _ => 2 - (intOf i).toNat)
  case atStart => exact ⟨0, by omega, rfl, fun h => absurd h (by omega), fun h => absurd h (by omega), Grew.refl _, h0, h1⟩
  case round =>
    obtain ⟨k, hk, rfl, hz0, hz1, hG, c0, c1⟩ := hrel
    have h3 : k = 0 ∨ k = 1 ∨ k = 2 := by omega
    rcases h3 with rfl | rfl | rfl
    · by_cases hr : r = 0
      · subst hr
        go_wp2
        go_roundw
        case rel => exact ⟨1, by omega, by go_num, by simp, fun h => absurd h (by omega), hG, c0, c1⟩
        case measure => simp [intOf]
      · have hr' : (r == 0) = false := by rw [beq_eq_false_iff_ne]; exact hr
        have E := Lib.hid (show v = r by rw [← V.out, if_neg hr])
        go_wp2
        go_ret
        exact ⟨ret_int (by rw [E.out]), hG⟩
    · have hr := hz0 (by omega)
      subst hr
      by_cases hr : s = 0
      · subst hr
        go_wp2
        go_roundw
        case rel => exact ⟨2, by omega, by go_num, by simp, by simp, hG, c0, c1⟩
        case measure => simp [intOf]
      · have hr' : (s == 0) = false := by rw [beq_eq_false_iff_ne]; exact hr
        have E := Lib.hid (show v = s by rw [← V.out, if_pos rfl])
        go_wp2
        go_ret
        exact ⟨ret_int (by rw [E.out]), hG⟩
    · have hs := hz1 (by omega)
      have hr := hz0 (by omega)
      have E := Lib.hid (show v = 0 by rw [← V.out, if_pos hr, hs])
      go_wp2
      go_ret
      exact ⟨ret_int (by rw [E.out]), hG⟩

theorem cmpC_or (a b : Cause) : (if cmp3 a.Kind b.Kind = 0 then cmp3 a.Number b.Number else cmp3 a.Kind b.Kind) = cmpC a b := by
  have e1 : ltC a b = decide (a.Kind < b.Kind ∨ (a.Kind = b.Kind ∧ a.Number < b.Number)) := rfl
  have e2 : ltC b a = decide (b.Kind < a.Kind ∨ (b.Kind = a.Kind ∧ b.Number < a.Number)) := rfl
  rw [cmpC, e1, e2]
  unfold cmp3
  simp only [decide_eq_true_eq]
  repeat' split
  all_goals first | rfl | omega
set_option maxHeartbeats 1000000 in
theorem compareCauses_any (a b : Cause) (w : World) :
    Calls Try.prog 56 #[.agg #[.int .i64 a.Kind, .int .i64 a.Number], .agg #[.int .i64 b.Kind, .int .i64 b.Number]] w fun e w' => e = .returned (.int .i64 (cmpC a b)) ∧ Grew w w' := by
  have E := Lib.hid (cmpC_or a b)
  have h1 := cmp64_any a.Kind b.Kind
  have h2 := cmp64_any a.Number b.Number
  rw [← E.out]
  generalize cmp3 a.Kind b.Kind = r at h1 ⊢
  generalize cmp3 a.Number b.Number = s at h2 ⊢
  clear E
  obtain ⟨v, hv⟩ : ∃ v, (if r = 0 then s else r) = v := ⟨_, rfl⟩
  have h3 := fun g W h0 h1 => or2_any g r s W h0 h1
  rw [hv] at h3 ⊢
  clear hv
  have H1 := Lib.hid h1; have H2 := Lib.hid h2; have H3 := Lib.hid h3; clear h1 h2 h3
  go_enter Try.func56, Try.ntmps56
  go_wp2_with fail
  go_region_held3 (fun w' => w'.cell? ⟨w.heap.size, 0, none⟩ = some (.int .i64 a.Kind) ∧ w'.cell? ⟨w.heap.size, 1, none⟩ = some (.int .i64 a.Number) ∧ w'.cell? ⟨w.heap.size + 1, 0, none⟩ = some (.int .i64 b.Kind) ∧ w'.cell? ⟨w.heap.size + 1, 1, none⟩ = some (.int .i64 b.Number) ∧ w.heap.size + 1 < w'.heap.size ∧ Grew w w')
    ((try refine ⟨?_, ?_, ?_, ?_, ?_, ?_⟩) <;> (go_split_ands; first | with_reducible assumption | with_reducible exact Grew.trans (by assumption) hg1 | with_reducible exact Grew.drew (by assumption) | with_reducible exact Grew.alloc (by assumption) _ | with_reducible exact (((Grew.refl _).alloc _).alloc _).drew | with_reducible exact (hg1.below.cell (p := ⟨w.heap.size, 0, none⟩) (show w.heap.size < _ by omega)).trans (by assumption) | with_reducible exact (hg1.below.cell (p := ⟨w.heap.size, 1, none⟩) (show w.heap.size < _ by omega)).trans (by assumption) | with_reducible exact (hg1.below.cell (p := ⟨w.heap.size + 1, 0, none⟩) (show w.heap.size + 1 < _ by omega)).trans (by assumption) | with_reducible exact (hg1.below.cell (p := ⟨w.heap.size + 1, 1, none⟩) (show w.heap.size + 1 < _ by omega)).trans (by assumption) | exact Nat.lt_of_lt_of_le (by assumption) hg1.below.size | (simp only [World.size_alloc]; omega) | go_keep))
    (first | (go_at_call 95; with_reducible refine (H1.out _).mono ?_; rintro e w1 ⟨rfl, hg1⟩) | (go_at_call 95; with_reducible refine (H2.out _).mono ?_; rintro e w1 ⟨rfl, hg1⟩) | (go_at_call 94; refine (H3.out _ _ (by go_simp) (by go_simp)).mono ?_; rintro e w1 ⟨rfl, hg1⟩))
  all_goals
    go_wp2
    go_ret
    exact ⟨rfl, by go_split_ands; assumption⟩

/-- A row of causes, sorted. -/
def encC (c : Cause) : List Value := [.int .i64 c.Kind, .int .i64 c.Number]
theorem ltOf_cmpC (a b : Cause) : ltOf cmpC a b = ltC a b := by
  unfold ltOf
  rw [Bool.eq_iff_iff, decide_eq_true_eq, cmpC_neg]
theorem swoC : Go.Sort.SWO (ltOf cmpC) where
  irrefl x := by rw [ltOf_cmpC]; exact ltC_irrefl x
  trans x y z h1 h2 := by rw [ltOf_cmpC] at *; exact ltC_trans h1 h2
  ntrans x y z h1 h2 := by rw [ltOf_cmpC] at *; exact ltC_ntrans h1 h2
theorem holds_row {w : World} {g n : Nat} {l : List Cause} (h : RowFCause w g n (nt l)) (hl : l.length = n) : Go.Sort.HoldsK encC 2 w g 0 l.toArray := fun j hj => by
  rw [Go.Sort.size_flatK] at hj
  have hj' : j < n * 2 := by simpa [hl] using hj
  rw [Go.Sort.get_flatK _ _ _ _ hj, Nat.zero_add]
  have hq : j / 2 < n := by omega
  obtain ⟨h0, h1⟩ := h.cell (j / 2) hq
  have e : j = j / 2 * 2 + j % 2 := by omega
  have hr : j % 2 < 2 := Nat.mod_lt _ (by omega)
  have ex : l.toArray[j / 2]! = nt l (j / 2) := by
    rw [nt_lt (by rw [hl]; exact hq), getElem!_pos l.toArray (j / 2) (by simpa [hl] using hq)]; simp
  refine ⟨?_, h.frozen _⟩
  rw [ex]
  generalize j / 2 = q at *
  generalize j % 2 = r at *
  subst e
  match r, hr with
  | 0, _ => exact h0
  | 1, _ => exact h1
theorem row_holds {w : World} {g n : Nat} {d : Array Cause} (h : Go.Sort.HoldsK encC 2 w g 0 d) (hd : d.size = n) (hg : g < w.heap.size) (hz : ∀ o, w.frozen? ⟨g, o, none⟩ = false) : RowFCause w g n (nt d.toList) :=
  ⟨hg, fun j hj => by
    have hj' : j < d.size := by omega
    have ex : d[j]! = nt d.toList j := by
      rw [nt_lt (by simpa using hj'), getElem!_pos d j hj']; simp
    have c0 := (h.cell (i := j) (c := 0) hj' (by omega)).1
    have c1 := (h.cell (i := j) (c := 1) hj' (by omega)).1
    rw [ex, Nat.zero_add] at c0 c1
    exact ⟨c0, c1⟩, hz⟩
theorem grown_sortW {w : World} {g m : Nat} {d : Array Cause} {os : Array Obj} (hg : g < w.heap.size) : w.grownBy (sortWorldK encC 2 w g 0 m d os) (some g) where
  os := rfl
  tape := rfl
  output := rfl
  size := size_sortWorldK_c encC 2 w g 0 m d os
  block := fun i hi hne => by
    unfold sortWorldK
    rw [Go.Sort.heap_grow_old _ _ (by simpa [Go.Sort.putRowK] using hi)]
    show ((w.heap.modify g _)[i]?) = _
    rw [Array.getElem?_modify, if_neg (fun h => hne (by rw [h]))]
/-- What slices.SortFunc leaves. -/
def Sorted (l : List Cause) (g n : Nat) (w : World) (e : Ending) (w' : World) : Prop :=
  e = .returned (.tuple #[]) ∧ ∃ l', l'.length = n ∧ l'.Perm l ∧ l'.Pairwise (fun a b => ltC b a = false) ∧ RowFCause w' g n (nt l') ∧ w.grownBy w' (some g)
/-- The library's sort as it lies here (the numbers are this seat's). -/
def Try.sortCause_ren : Go.Shelf.Ren := ⟨fun | 6 => 102 | 15 => 107 | 14 => 106 | 28 => 117 | 29 => 118 | 20 => 109 | 21 => 110 | 22 => 111 | 23 => 112 | 24 => 113 | 25 => 114 | 26 => 115 | 27 => 116 | 46 => 119 | 47 => 120 | 48 => 121 | 49 => 122 | 50 => 123 | 57 => 124 | n => n, fun | 22 => 31 | 24 => 38 | 25 => 72 | 3 => 3 | 39 => 70 | 0 => 0 | 53 => 118 | 55 => 92 | 4 => 4 | 46 => 111 | 45 => 110 | 50 => 115 | 5 => 5 | 9 => 9 | 66 => 120 | 70 => 124 | 76 => 126 | 77 => 127 | n => n, fun | n => n⟩
theorem Try.sortCause : Go.Proofs.SlLaysF0.n6 Try.prog Try.sortCause_ren := {
  mixed := by kernel_rfl,
  f6 := ⟨Try.f102.name, by decide, Try.func102.trans (congrArg some (by kernel_rfl))⟩,
  f14 := ⟨Try.f106.name, by decide, Try.func106.trans (congrArg some (by kernel_rfl))⟩,
  f15 := Try.func107.trans (congrArg some (by kernel_rfl)),
  f20 := ⟨Try.f109.name, by decide, Try.func109.trans (congrArg some (by kernel_rfl))⟩,
  f21 := ⟨Try.f110.name, by decide, Try.func110.trans (congrArg some (by kernel_rfl))⟩,
  f22 := ⟨Try.f111.name, by decide, Try.func111.trans (congrArg some (by kernel_rfl))⟩,
  f23 := ⟨Try.f112.name, by decide, Try.func112.trans (congrArg some (by kernel_rfl))⟩,
  f24 := ⟨Try.f113.name, by decide, Try.func113.trans (congrArg some (by kernel_rfl))⟩,
  f25 := ⟨Try.f114.name, by decide, Try.func114.trans (congrArg some (by kernel_rfl))⟩,
  f26 := ⟨Try.f115.name, by decide, Try.func115.trans (congrArg some (by kernel_rfl))⟩,
  f27 := ⟨Try.f116.name, by decide, Try.func116.trans (congrArg some (by kernel_rfl))⟩,
  f28 := Try.func117.trans (congrArg some (by kernel_rfl)),
  f29 := Try.func118.trans (congrArg some (by kernel_rfl)),
  f46 := ⟨Try.f119.name, by decide, Try.func119.trans (congrArg some (by kernel_rfl))⟩,
  f47 := Try.func120.trans (congrArg some (by kernel_rfl)),
  f48 := Try.func121.trans (congrArg some (by kernel_rfl)),
  f49 := ⟨Try.f122.name, by decide, Try.func122.trans (congrArg some (by kernel_rfl))⟩,
  f50 := ⟨Try.f123.name, by decide, Try.func123.trans (congrArg some (by kernel_rfl))⟩,
  f57 := ⟨Try.f124.name, by decide, Try.func124.trans (congrArg some (by kernel_rfl))⟩,
  t0 := Try.underlying0,
  a0 := Try.isAgg0,
  z0 := Try.sizeOf0,
  v0 := Try.zeroValue0,
  t3 := Try.underlying3,
  a3 := Try.isAgg3,
  z3 := Try.sizeOf3,
  v3 := Try.zeroValue3,
  t4 := Try.underlying4,
  a4 := Try.isAgg4,
  z4 := Try.sizeOf4,
  v4 := Try.zeroValue4,
  t5 := Try.underlying5,
  a5 := Try.isAgg5,
  z5 := Try.sizeOf5,
  v5 := Try.zeroValue5,
  t9 := Try.underlying9,
  a9 := Try.isAgg9,
  z9 := Try.sizeOf9,
  v9 := Try.zeroValue9,
  t22 := Try.underlying31,
  a22 := Try.isAgg31,
  z22 := Try.sizeOf31,
  v22 := Try.zeroValue31,
  t25 := Try.underlying72,
  a25 := Try.isAgg72,
  z25 := Try.sizeOf72,
  v25 := Try.zeroValue72,
  t39 := Try.underlying70,
  a39 := Try.isAgg70,
  z39 := Try.sizeOf70,
  v39 := Try.zeroValue70,
  t45 := Try.underlying110,
  a45 := Try.isAgg110,
  z45 := Try.sizeOf110,
  v45 := Try.zeroValue110,
  t46 := Try.underlying111,
  a46 := Try.isAgg111,
  z46 := Try.sizeOf111,
  v46 := Try.zeroValue111,
  t50 := Try.underlying115,
  a50 := Try.isAgg115,
  z50 := Try.sizeOf115,
  v50 := Try.zeroValue115,
  t53 := Try.underlying118,
  a53 := Try.isAgg118,
  z53 := Try.sizeOf118,
  v53 := Try.zeroValue118,
  t55 := Try.underlying92,
  a55 := Try.isAgg92,
  z55 := Try.sizeOf92,
  v55 := Try.zeroValue92,
  t66 := Try.underlying120,
  a66 := Try.isAgg120,
  z66 := Try.sizeOf120,
  v66 := Try.zeroValue120,
  t70 := Try.underlying124,
  a70 := Try.isAgg124,
  z70 := Try.sizeOf124,
  v70 := Try.zeroValue124,
  t76 := Try.underlying126,
  a76 := Try.isAgg126,
  z76 := Try.sizeOf126,
  v76 := Try.zeroValue126,
  t77 := Try.underlying127,
  a77 := Try.isAgg127,
  z77 := Try.sizeOf127,
  v77 := Try.zeroValue127 }
theorem eg_cmpC : ∀ args w, (callFunc 56 args).run Try.prog w = .ok (.enter 56 args) w := enters_of Try.func56 (by kernel_rfl) rfl
theorem sortC_any (g n cap : Nat) (l : List Cause) (w : World) (hl : l.length = n) (hn : n ≤ 1048576) (hR : RowFCause w g n (nt l)) :
    Calls Try.prog 102 #[.slice (some ⟨g, 0, none⟩) n cap, .func (.func 56) #[] #[]] w (Sorted l g n w) := by
  have hcon := AnyQ.slices_SortFunc Try.sortCause 2 Try.isAgg38 Try.sizeOf38 encC (fun _ => rfl) (fun x v hv => by simp [encC] at hv; rcases hv with rfl | rfl <;> rfl) cmpC swoC 56 #[] g 0 cap l.toArray w eg_cmpC (fun m os dk hs x y => compareCauses_any x y _) (holds_row hR hl) hR.lt (by simp [hl]; omega)
  rw [show l.toArray.size = n by simp [hl]] at hcon
  refine hcon.mono ?_
  rintro e w' ⟨he, d', m, os, ⟨hp1, hp2, hp3⟩, hs, rfl⟩
  have hd : d'.size = n := by rw [hp1]; simp [hl]
  refine ⟨he, d'.toList, by simp [hd], ?_, ?_, row_holds (holdsK_sortWorldK_c encC 2 w g 0 l.toArray d' m os (holds_row hR hl) hR.lt hp1) hd ?_ ?_, grown_sortW hR.lt⟩
  · have e1 : d'.extract 0 n = d' := by rw [← hd]; simp
    have e2 : l.toArray.extract 0 n = l.toArray := by rw [← hl]; simp
    rw [e1, e2] at hp3; simpa using hp3
  · refine List.pairwise_iff_getElem.2 fun i j hi hj hij => ?_
    have hj' : j < d'.size := by simpa using hj
    have := hs i j (Nat.zero_le _) hij (by omega)
    rw [ltOf_cmpC, getElem!_pos d' j hj', getElem!_pos d' i (by omega)] at this
    simpa using this
  · exact Nat.lt_of_lt_of_le hR.lt (size_sortWorldK_c encC 2 w g 0 m d' os)
  · intro o
    unfold sortWorldK
    rw [Go.Sort.frozen?_grow _ _ _ (by simpa [Go.Sort.putRowK] using hR.lt)]
    show (Go.Sort.putRow id _ g 0 _).frozen? _ = false
    rw [Go.Sort.frozen?_putRow]; exact hR.frozen o
end Go.Proofs.Ytmapjepdcbpalaa
