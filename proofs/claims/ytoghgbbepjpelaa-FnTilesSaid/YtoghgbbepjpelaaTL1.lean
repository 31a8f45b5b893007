/- Slices of texts that read as rows; the contracts of slices.Equal, a2Text, ValidPattern (the reference's and the program's) on patterns. -/
import Derived.Test.YtoghgbbepjpelaaSm
import Derived.Test.YtoghgbbepjpelaaLs
import Derived.Test.YtoghgbbepjpelaaTL0
import Derived.Lib.Strings
import Derived.Lib.Slices
import Derived.Lib.Walk
import Derived.Lib.Bytealg
namespace Go.Proofs.Ytoghgbbepjpelaa
open Go.RowKit
set_option linter.unusedVariables false

/-- A slice of texts that reads as rows. -/
structure RowsS (w : World) (A : Option Addr) (n : Nat) (xs : List (List UInt8)) : Prop where
  len : xs.length = n
  bound : n ≤ 1048576
  cell : 0 < n → ∃ b off, A = some ⟨b, off, none⟩ ∧ b < w.heap.size ∧ ∀ j, j < n → w.cell? ⟨b, off + j, none⟩ = some (.string ⟨(nt xs j).toArray⟩)
theorem RowsS.below {w w' : World} {A : Option Addr} {n : Nat} {xs : List (List UInt8)} (h : RowsS w A n xs) (hb : Below w.heap.size w w') : RowsS w' A n xs :=
  ⟨h.len, h.bound, fun hn => by
    obtain ⟨b, off, e, hlt, hc⟩ := h.cell hn
    exact ⟨b, off, e, Nat.lt_of_lt_of_le hlt hb.size, fun j hj => (hb.cell (p := ⟨b, off + j, none⟩) hlt).trans (hc j hj)⟩⟩
theorem RowsS.keptD {w w' : World} {A : Option Addr} {n p : Nat} {xs : List (List UInt8)} (h : RowsS w A n xs) (hg : w.grownBy w' (some p)) (hne : ∀ b off, A = some ⟨b, off, none⟩ → p < b) : RowsS w' A n xs :=
  ⟨h.len, h.bound, fun hn => by
    obtain ⟨b, off, e, hlt, hc⟩ := h.cell hn
    have hb := hne b off e
    exact ⟨b, off, e, Nat.lt_of_lt_of_le hlt hg.size, fun j hj => (World.cell?_of_block (hg.block b hlt (fun e => by simp only [Option.some.injEq] at e; omega))).trans (hc j hj)⟩⟩
def txtV (xs : List (List UInt8)) : List Value := xs.map fun l => .string ⟨l.toArray⟩
theorem txtV_len (xs : List (List UInt8)) : (txtV xs).length = xs.length := by simp [txtV]
theorem txtV_snoc (xs : List (List UInt8)) (l : List UInt8) : txtV (xs ++ [l]) = txtV xs ++ [.string ⟨l.toArray⟩] := by simp [txtV]
theorem info_txt : (Try.prog.info? 9).map (fun i => (i.zero, i.size, i.bytes)) = some (some (.string ⟨#[]⟩), 1, 16) := by kernel_rfl
theorem own_rows {w : World} {base : Nat} {v : Value} {xs : List (List UInt8)} (h : OwnS w base 9 v (txtV xs)) (hn : xs.length ≤ 1048576) :
    ∃ g cap, v = .slice (some ⟨g, 0, none⟩) xs.length cap ∧ base ≤ g ∧ RowsS w (some ⟨g, 0, none⟩) xs.length xs := by
  obtain ⟨g, cap, rfl, hg, ho⟩ := h
  simp only [txtV_len] at ho ⊢
  refine ⟨g, cap, rfl, hg, rfl, hn, fun h0 => ⟨g, 0, rfl, (ho.lt g (by simp [Value.ownBlock])).2, fun j hj => ?_⟩⟩
  have hj' : j < xs.length := hj
  rw [Nat.zero_add, ho.cellAt j (by simpa [txtV] using hj')]
  simp [txtV, List.getElem?_eq_getElem hj', nt_get hj']
theorem txt_ne {a b : List UInt8} (h : ¬ a = b) : ((⟨a.toArray⟩ : ByteArray).toList == (⟨b.toArray⟩ : ByteArray).toList) = false := by
  rw [beq_eq_false_iff_ne]
  intro e
  rw [Lib.toList_data, Lib.toList_data] at e
  exact h (by simpa using e)

theorem rows_eq {xs ys : List (List UInt8)} (hl : xs.length = ys.length) (h : ∀ k, k < xs.length → nt xs k = nt ys k) : xs = ys := list_ext hl h
set_option maxHeartbeats 1000000 in
theorem equalRows_any (A B : Option Addr) (n m c d : Nat) (xs ys : List (List UInt8)) (w : World) (hA : RowsS w A n xs) (hB : RowsS w B m ys) (hnm : n = m) :
    Calls Try.prog 60 #[.slice A n c, .slice B m d] w fun e w' => (∃ t, e = .returned (.bool t) ∧ (t = true ↔ xs = ys)) ∧ Below w.heap.size w w' := by
  have hn := hA.bound
  subst hnm
  have L1 := Lib.hid hA.len; have L2 := Lib.hid hB.len
  go_enter Try.func60, Try.ntmps60
  go_wp2
  go_loopw [13] (fun i wr => ∃ k : Nat, k ≤ n ∧ i = .int .i64 k ∧ (∀ j, j < k → nt xs j = nt ys j) ∧ Below w.heap.size w wr) (fun i _ => n - (intOf i).toNat)
  case atStart => exact ⟨0, Nat.zero_le _, rfl, fun j hj => absurd hj (by omega), Below.refl _ _⟩
  case round =>
    obtain ⟨k, hk, rfl, hall, hb⟩ := hrel
    have HALL := Lib.hid hall
    clear hall
    by_cases hlt : k < n
    · obtain ⟨b, off, rfl, _, hc⟩ := (hA.below hb).cell (by omega)
      have hck := hc k hlt
      obtain ⟨b', off', rfl, _, hc'⟩ := (hB.below hb).cell (by omega)
      have hck' := hc' k hlt
      have HB := Lib.hid hb
      clear hc hc' hb
      by_cases he : nt xs k = nt ys k
      · rw [← he] at hck'
        have HE := Lib.hid he
        clear he
        go_wp2_with fail
        go_quiet (fail)
        go_wp2_with fail
        go_roundw
        case rel => exact ⟨k + 1, by omega, by go_num, fun j hj => (by
          rcases Nat.lt_or_ge j k with h | h
          · exact HALL.out j h
          · obtain rfl : j = k := by omega
            exact HE.out), below_drewN HB.out _⟩
        case measure => simp [intOf]; omega
      · have hne := txt_ne he
        have HE := Lib.hid he
        clear he
        generalize (⟨(nt xs k).toArray⟩ : ByteArray) = s at *
        generalize (⟨(nt ys k).toArray⟩ : ByteArray) = t at *
        have hne2 : ¬ s.toList = t.toList := by simpa using hne
        go_wp2_with fail
        go_quiet (fail)
        go_wp2_with fail
        go_ret
        exact ⟨⟨false, rfl, fun h => (by cases h), fun h => absurd (by rw [h]) HE.out⟩, below_drewN HB.out _⟩
    · obtain rfl : n = k := by omega
      go_wp2_with fail
      go_ret
      exact ⟨⟨true, rfl, fun _ => rows_eq (by rw [L1.out, L2.out]) (fun j hj => HALL.out j (by rw [L1.out] at hj; exact hj)), fun _ => rfl⟩, hb⟩
set_option maxHeartbeats 1000000 in
theorem a2Text_yes (A B : Option Addr) (n m c d : Nat) (xs : List (List UInt8)) (w : World) (hA : RowsS w A n xs) (hB : RowsS w B m xs) :
    Calls Try.prog 27 #[.slice A n c, .slice B m d] w fun e w' => e = .returned (.bool true) ∧ Below w.heap.size w w' := by
  have hn := hA.bound
  obtain rfl : n = m := hA.len.symm.trans hB.len
  go_enter Try.func27, Try.ntmps27
  go_wp2
  go_loopw [5] (fun i wr => ∃ k : Nat, k ≤ n ∧ i = .int .i64 k ∧ Below w.heap.size w wr) (fun i _ => n - (intOf i).toNat)
  case atStart => exact ⟨0, Nat.zero_le _, rfl, Below.refl _ _⟩
  case round =>
    obtain ⟨k, hk, rfl, hb⟩ := hrel
    by_cases hlt : k < n
    · obtain ⟨b, off, rfl, _, hc⟩ := (hA.below hb).cell (by omega)
      have hck := hc k hlt
      obtain ⟨b', off', rfl, _, hc'⟩ := (hB.below hb).cell (by omega)
      have hck' := hc' k hlt
      have HB := Lib.hid hb
      clear hc hc' hb
      go_wp2_with fail
      go_quiet (fail)
      go_wp2_with fail
      go_roundw
      case rel => exact ⟨k + 1, by omega, by go_num, below_drewN HB.out _⟩
      case measure => simp [intOf]; omega
    · obtain rfl : n = k := by omega
      go_wp2_with fail
      go_ret
      exact ⟨rfl, hb⟩

set_option maxRecDepth 100000 in
theorem indexByteT_low (s : ByteArray) (c : Int) (w : World) :
    Calls Try.prog 118 #[.string s, .int .u8 c] w fun e w' => e = .returned (.int .i64 (Lib.indexByte s.data.toList c.toNat.toUInt8)) ∧ w = w' := by
  go_enter Try.func118, Try.ntmps118
  go_wp2
  rw [run_callFunc_extern Try.func122 (by kernel_rfl) (by kernel_rfl) (by kernel_rfl) (e := Extern.BytealgIndexByte.indexByte) (by kernel_rfl), Lib.run_indexByteString]
  simp only [Result.andThen]
  rw [Oper.upon_value]
  go_wp2
  go_ret
  exact ⟨rfl, rfl⟩
theorem indexByteT_any (s : ByteArray) (c : Int) (w : World) :
    Calls Try.prog 103 #[.string s, .int .u8 c] w fun e w' => e = .returned (.int .i64 (Lib.indexByte s.data.toList c.toNat.toUInt8)) ∧ w = w' := by
  go_enter Try.func103, Try.ntmps103
  go_wp2_with (go_at_call 118; refine (indexByteT_low _ _ _).mono ?_; rintro e w' ⟨rfl, rfl⟩)
  go_ret
  exact ⟨rfl, rfl⟩
theorem index_dots (c : UInt8) (h : c = 35 ∨ c = 46) : ¬ Lib.indexByte [35, 46] ((c.toNat : Int).toNat.toUInt8) < 0 := by
  rcases h with rfl | rfl <;> decide
/-- Signs that are all '#' or '.'. -/
theorem onlyDots_any (l : List UInt8) (w : World) (hs : l.length ≤ 1000) (h : ∀ c ∈ l, c = 35 ∨ c = 46) :
    Calls Try.prog 86 #[.string ⟨l.toArray⟩, .string ⟨#[35, 46]⟩] w fun e w' => e = .returned (.bool true) ∧ w = w' := by
  have hz : (⟨l.toArray⟩ : ByteArray).size = l.length := by rw [Lib.size_eq]
  have HD := Lib.hid (fun k (hk : k < (⟨l.toArray⟩ : ByteArray).size) => index_dots ((⟨l.toArray⟩ : ByteArray)[k]) (h _ (by
    have hk2 : k < l.length := by omega
    show l.toArray[k] ∈ l
    simp)))
  generalize (⟨l.toArray⟩ : ByteArray) = s at *
  go_enter Try.func86, Try.ntmps86
  go_wp2
  go_loop [8] (fun i => ∃ k : Nat, k ≤ s.size ∧ i = .int .i64 k) (fun i => s.size - (intOf i).toNat)
  case atStart => exact ⟨0, Nat.zero_le _, rfl⟩
  case round =>
    obtain ⟨k, hk, rfl⟩ := hrel
    by_cases hlt : k < s.size
    · have hd := HD.out k hlt
      go_wp2_with fail
      refine (indexByteT_any _ _ _).mono ?_; rintro e w' ⟨rfl, rfl⟩
      have hd2 : ¬ Lib.indexByte ((⟨#[35, 46]⟩ : ByteArray).data.toList) ((s[k].toNat : Int).toNat.toUInt8) < 0 := Int.not_lt.2 hd
      generalize Lib.indexByte ((⟨#[35, 46]⟩ : ByteArray).data.toList) ((s[k].toNat : Int).toNat.toUInt8) = q at *
      go_wp2_with fail
      go_round
      case rel => exact ⟨k + 1, by omega, by go_num⟩
      case measure => simp [intOf]; omega
    · obtain rfl : k = s.size := by omega
      go_wp2
      go_ret
      exact ⟨rfl, rfl⟩
end Go.Proofs.Ytoghgbbepjpelaa
