/- Plain laws on patterns: shifts, least tiles, tiles that are repeated. No function is walked here. -/
import Derived.Test.YtoghgbbepjpelaaRc
import Derived.Lib.Repeat
namespace Go.Proofs.Ytoghgbbepjpelaa
open Go.RowKit
set_option linter.unusedVariables false

/-- The sign at a place of some rows. -/
def at2 (xs : List (List UInt8)) (y x : Nat) : UInt8 := (nt xs y).getD x 0
/-- Rows that are a pattern of a width and a height. -/
structure PatOk (W H : Nat) (xs : List (List UInt8)) : Prop where
  len : xs.length = H
  row : ∀ y, y < H → (nt xs y).length = W
  dot : ∀ y, y < H → ∀ c ∈ nt xs y, c = 35 ∨ c = 46
  h1 : 1 ≤ H
  h2 : H ≤ 24
  w1 : 1 ≤ W
  w2 : W ≤ 24
theorem nt_get {α : Type} [Inhabited α] {xs : List α} {k : Nat} (h : k < xs.length) : nt xs k = xs[k] := by
  rw [nt, List.getD_eq_getElem?_getD, List.getElem?_eq_getElem h]; rfl
theorem list_ext {α : Type} [Inhabited α] {a b : List α} (hl : a.length = b.length) (h : ∀ k, k < a.length → nt a k = nt b k) : a = b := by
  refine List.ext_getElem hl fun k h1 h2 => ?_
  have := h k h1
  rwa [nt_get h1, nt_get h2] at this
theorem byte_ext {a b : List UInt8} (hl : a.length = b.length) (h : ∀ k, k < a.length → a.getD k 0 = b.getD k 0) : a = b := by
  refine List.ext_getElem hl fun k h1 h2 => ?_
  have := h k h1
  rwa [List.getD_eq_getElem?_getD, List.getD_eq_getElem?_getD, List.getElem?_eq_getElem h1, List.getElem?_eq_getElem h2] at this
theorem pat_ext {W H : Nat} {xs ys : List (List UInt8)} (hx : xs.length = H) (hy : ys.length = H) (rx : ∀ y, y < H → (nt xs y).length = W) (ry : ∀ y, y < H → (nt ys y).length = W) (h : ∀ y, y < H → ∀ x, x < W → at2 xs y x = at2 ys y x) : xs = ys :=
  list_ext (by rw [hx, hy]) fun y hy' => byte_ext (by rw [rx y (by omega), ry y (by omega)]) fun x hx' => h y (by omega) x (by rw [rx y (by omega)] at hx'; exact hx')
theorem nt_rows {α : Type} [Inhabited α] (f : Nat → α) {n k : Nat} (h : k < n) : nt ((List.range n).map f) k = f k := by
  rw [nt_get (by simpa using h)]; simp
/-- Rows, one a number. -/
def rowsF (f : Nat → List UInt8) (n : Nat) : List (List UInt8) := (List.range n).map f
theorem rowsF_len (f : Nat → List UInt8) (n : Nat) : (rowsF f n).length = n := by simp [rowsF]
theorem rowsF_next (f : Nat → List UInt8) (n : Nat) : rowsF f (n + 1) = rowsF f n ++ [f n] := by simp [rowsF, List.range_succ]
theorem rowsF_at (f : Nat → List UInt8) {n k : Nat} (h : k < n) : nt (rowsF f n) k = f k := nt_rows f h

/-- A row that is turned to the right. -/
def turn (r : List UInt8) (W k : Nat) : List UInt8 := r.drop (W - k) ++ r.take (W - k)
theorem turn_len {r : List UInt8} {W k : Nat} (h : r.length = W) : (turn r W k).length = W := by
  simp only [turn, List.length_append, List.length_drop, List.length_take]; omega
theorem turn_at {r : List UInt8} {W k x : Nat} (h : r.length = W) (hk : k < W) (hx : x < W) : (turn r W k).getD x 0 = r.getD ((x + W - k) % W) 0 := by
  simp only [turn, List.getD_eq_getElem?_getD]
  by_cases h1 : x < k
  · rw [List.getElem?_append_left (by rw [List.length_drop]; omega), List.getElem?_drop, Nat.mod_eq_of_lt (by omega)]
    congr 2; omega
  · rw [List.getElem?_append_right (by rw [List.length_drop]; omega), List.length_drop, List.getElem?_take_of_lt (by omega)]
    rw [show x + W - k = (x - k) + W by omega, Nat.add_mod_right, Nat.mod_eq_of_lt (by omega)]
    congr 2; omega
/-- A pattern that is shifted. -/
def shiftF (xs : List (List UInt8)) (W H r u : Nat) : List (List UInt8) := rowsF (fun y => turn (nt xs ((y + H - u) % H)) W r) H
theorem shiftF_at {xs : List (List UInt8)} {W H r u y x : Nat} (h : PatOk W H xs) (hr : r < W) (hy : y < H) (hx : x < W) : at2 (shiftF xs W H r u) y x = at2 xs ((y + H - u) % H) ((x + W - r) % W) := by
  rw [at2, shiftF, rowsF_at _ hy, turn_at (h.row _ (Nat.mod_lt _ h.h1)) hr hx, at2]

/-- The pattern, again and again. -/
def ext2 (xs : List (List UInt8)) (W H : Nat) (y x : Nat) : UInt8 := at2 xs (y % H) (x % W)
def PerX (f : Nat → Nat → UInt8) (p : Nat) : Prop := ∀ y x, f y (x + p) = f y x
def PerY (f : Nat → Nat → UInt8) (p : Nat) : Prop := ∀ y x, f (y + p) x = f y x
theorem mod_back {x W w : Nat} (hW : 1 ≤ W) : ((x + w) % W + W - w % W) % W = x % W := by
  have h1 : w % W < W := Nat.mod_lt _ hW
  have h2 : (x + w) % W < W := Nat.mod_lt _ hW
  rw [Nat.add_mod] at h2 ⊢
  generalize w % W = a at *
  have h3 : x % W < W := Nat.mod_lt _ hW
  generalize x % W = b at *
  by_cases h : b + a < W
  · rw [Nat.mod_eq_of_lt h, show b + a + W - a = b + W by omega, Nat.add_mod_right, Nat.mod_eq_of_lt h3]
  · have e1 : (b + a) % W = b + a - W := by
      rw [show b + a = (b + a - W) + W by omega, Nat.add_mod_right, Nat.mod_eq_of_lt (by omega)]; omega
    rw [e1, show b + a - W + W - a = b by omega, Nat.mod_eq_of_lt h3]
theorem mod_fwd {x W w : Nat} (hW : 1 ≤ W) : (x + W - w % W + w) % W = x % W := by
  have h1 : w % W < W := Nat.mod_lt _ hW
  have h2 := Nat.div_add_mod w W
  rw [show x + W - w % W + w = x + W + W * (w / W) by omega, Nat.add_mul_mod_self_left, Nat.add_mod_right]
theorem shift_x {xs : List (List UInt8)} {W H w : Nat} (h : PatOk W H xs) : shiftF xs W H (w % W) 0 = xs ↔ PerX (ext2 xs W H) w := by
  have hr : w % W < W := Nat.mod_lt _ h.w1
  constructor
  · intro e y x
    have hy : y % H < H := Nat.mod_lt _ h.h1
    have hx : (x + w) % W < W := Nat.mod_lt _ h.w1
    have e1 := shiftF_at (u := 0) h hr hy hx
    rw [e, mod_back h.w1, Nat.sub_zero, Nat.add_mod_right, Nat.mod_mod] at e1
    exact e1
  · intro e
    refine pat_ext (W := W) (H := H) (by rw [shiftF, rowsF_len]) h.len (fun y hy => ?_) h.row (fun y hy x hx => ?_)
    · rw [shiftF, rowsF_at _ hy]; exact turn_len (h.row _ (Nat.mod_lt _ h.h1))
    · rw [shiftF_at h hr hy hx, Nat.sub_zero, Nat.add_mod_right]
      have e1 := e y (x + W - w % W)
      simp only [ext2] at e1
      rw [mod_fwd h.w1, Nat.mod_eq_of_lt hx] at e1
      rw [← e1, Nat.mod_eq_of_lt hy]
theorem shift_y {xs : List (List UInt8)} {W H k : Nat} (h : PatOk W H xs) : shiftF xs W H 0 (k % H) = xs ↔ PerY (ext2 xs W H) k := by
  have hr : 0 < W := h.w1
  have hu : k % H < H := Nat.mod_lt _ h.h1
  constructor
  · intro e y x
    have hy : (y + k) % H < H := Nat.mod_lt _ h.h1
    have hx : x % W < W := Nat.mod_lt _ h.w1
    have e1 := shiftF_at (u := k % H) h hr hy hx
    rw [e, mod_back h.h1, Nat.sub_zero, Nat.add_mod_right, Nat.mod_mod] at e1
    exact e1
  · intro e
    refine pat_ext (W := W) (H := H) (by rw [shiftF, rowsF_len]) h.len (fun y hy => ?_) h.row (fun y hy x hx => ?_)
    · rw [shiftF, rowsF_at _ hy]; exact turn_len (h.row _ (Nat.mod_lt _ h.h1))
    · rw [shiftF_at h hr hy hx, Nat.sub_zero, Nat.add_mod_right, Nat.mod_eq_of_lt hx]
      have e1 := e (y + H - k % H) x
      simp only [ext2] at e1
      rw [mod_fwd h.h1, Nat.mod_eq_of_lt hy, Nat.mod_eq_of_lt hx] at e1
      exact e1.symm
theorem perX_mul {f : Nat → Nat → UInt8} {p : Nat} (h : PerX f p) (k : Nat) : ∀ y x, f y (x + p * k) = f y x := by
  induction k with
  | zero => intro y x; rfl
  | succ k ih => intro y x; rw [Nat.mul_succ, ← Nat.add_assoc, h, ih]
theorem perY_mul {f : Nat → Nat → UInt8} {p : Nat} (h : PerY f p) (k : Nat) : ∀ y x, f (y + p * k) x = f y x := by
  induction k with
  | zero => intro y x; rfl
  | succ k ih => intro y x; rw [Nat.mul_succ, ← Nat.add_assoc, h, ih]
theorem perX_mod {f : Nat → Nat → UInt8} {p : Nat} (h : PerX f p) (y x : Nat) : f y (x % p) = f y x := by
  have := perX_mul h (x / p) y (x % p)
  rw [Nat.mod_add_div] at this; exact this.symm
theorem perY_mod {f : Nat → Nat → UInt8} {p : Nat} (h : PerY f p) (y x : Nat) : f (y % p) x = f y x := by
  have := perY_mul h (y / p) (y % p) x
  rw [Nat.mod_add_div] at this; exact this.symm
theorem perX_gcd {f : Nat → Nat → UInt8} : ∀ a b : Nat, PerX f a → PerX f b → PerX f (Nat.gcd a b) := by
  intro a b
  induction a, b using Nat.gcd.induction with
  | H0 n => intro _ h; rwa [Nat.gcd_zero_left]
  | H1 m n hm ih =>
    intro h1 h2
    rw [Nat.gcd_rec]
    refine ih (fun y x => ?_) h1
    have e1 := perX_mul h1 (n / m) y (x + n % m)
    rw [Nat.add_assoc, Nat.mod_add_div] at e1
    rw [← e1]; exact h2 y x
theorem perY_gcd {f : Nat → Nat → UInt8} : ∀ a b : Nat, PerY f a → PerY f b → PerY f (Nat.gcd a b) := by
  intro a b
  induction a, b using Nat.gcd.induction with
  | H0 n => intro _ h; rwa [Nat.gcd_zero_left]
  | H1 m n hm ih =>
    intro h1 h2
    rw [Nat.gcd_rec]
    refine ih (fun y x => ?_) h1
    have e1 := perY_mul h1 (n / m) (y + n % m) x
    rw [Nat.add_assoc, Nat.mod_add_div] at e1
    rw [← e1]; exact h2 y x
theorem perX_self {xs : List (List UInt8)} {W H : Nat} : PerX (ext2 xs W H) W := fun y x => by simp only [ext2, Nat.add_mod_right]
theorem perY_self {xs : List (List UInt8)} {W H : Nat} : PerY (ext2 xs W H) H := fun y x => by simp only [ext2, Nat.add_mod_right]

/-- A number is the least one that divides W and leaves the pattern as it is. -/
structure LeastN (P : Nat → Prop) (W w : Nat) : Prop where
  one : 1 ≤ w
  le : w ≤ W
  div : W % w = 0
  per : P w
  min : ∀ v, 1 ≤ v → v < w → W % v = 0 → ¬ P v
/-- The tile of a width and a height at the corner. -/
def tileF (xs : List (List UInt8)) (w h : Nat) : List (List UInt8) := rowsF (fun y => (nt xs y).take w) h
theorem tile_ok {xs : List (List UInt8)} {W H w h : Nat} (hp : PatOk W H xs) (w1 : 1 ≤ w) (w2 : w ≤ W) (h1 : 1 ≤ h) (h2 : h ≤ H) : PatOk w h (tileF xs w h) := by
  have := hp.h2; have := hp.w2
  refine ⟨rowsF_len _ _, fun y hy => ?_, fun y hy c hc => ?_, h1, by omega, w1, by omega⟩
  · rw [tileF, rowsF_at _ hy, List.length_take, hp.row y (by omega)]; omega
  · rw [tileF, rowsF_at _ hy] at hc; exact hp.dot y (by omega) c (List.mem_of_mem_take hc)
theorem tile_at {xs : List (List UInt8)} {W H w h y x : Nat} (hp : PatOk W H xs) (hw : w ≤ W) (hh : h ≤ H) (hy : y < h) (hx : x < w) : at2 (tileF xs w h) y x = at2 xs y x := by
  rw [at2, tileF, rowsF_at _ hy, at2, List.getD_eq_getElem?_getD, List.getD_eq_getElem?_getD, List.getElem?_take_of_lt hx]
/-- A tile again and again. -/
def repF (xs : List (List UInt8)) (H a b : Nat) : List (List UInt8) := rowsF (fun y => Lib.repeatL (nt xs (y % H)) a) (b * H)
theorem repeatL_at (l : List UInt8) {W : Nat} (hl : l.length = W) : ∀ c x, x < c * W → (Lib.repeatL l c).getD x 0 = l.getD (x % W) 0 := by
  intro c
  induction c with
  | zero => intro x hx; omega
  | succ c ih =>
    intro x hx
    rw [Nat.succ_mul] at hx
    rw [Lib.repeatL, List.getD_eq_getElem?_getD]
    by_cases h : x < W
    · rw [List.getElem?_append_left (by omega), Nat.mod_eq_of_lt h, List.getD_eq_getElem?_getD]
    · rw [List.getElem?_append_right (by omega), hl, ← List.getD_eq_getElem?_getD, ih (x - W) (by omega)]
      congr 1
      rw [show x % W = (x - W + W) % W by congr 1; omega, Nat.add_mod_right]
theorem repeatL_mem {l : List UInt8} : ∀ {n : Nat} {c : UInt8}, c ∈ Lib.repeatL l n → c ∈ l := by
  intro n
  induction n with
  | zero => intro c h; simp [Lib.repeatL] at h
  | succ n ih => intro c h; rw [Lib.repeatL, List.mem_append] at h; exact h.elim id ih
theorem rep_ok {xs : List (List UInt8)} {W H a b : Nat} (hp : PatOk W H xs) (a1 : 1 ≤ a) (b1 : 1 ≤ b) (ha : a * W ≤ 24) (hb : b * H ≤ 24) : PatOk (a * W) (b * H) (repF xs H a b) := by
  have hW := hp.w1; have hH := hp.h1
  refine ⟨rowsF_len _ _, fun y hy => ?_, fun y hy c hc => ?_, Nat.mul_pos b1 hH, hb, Nat.mul_pos a1 hW, ha⟩
  · rw [repF, rowsF_at _ hy, Lib.repeatL_length, hp.row _ (Nat.mod_lt _ hH)]
  · rw [repF, rowsF_at _ hy] at hc; exact hp.dot _ (Nat.mod_lt _ hH) c (repeatL_mem hc)
theorem rep_at {xs : List (List UInt8)} {W H a b y x : Nat} (hp : PatOk W H xs) (hy : y < b * H) (hx : x < a * W) : at2 (repF xs H a b) y x = ext2 xs W H y x := by
  rw [at2, repF, rowsF_at _ hy, repeatL_at _ (hp.row _ (Nat.mod_lt _ hp.h1)) _ _ hx, ext2, at2]
theorem rep_ext {xs : List (List UInt8)} {W H a b : Nat} (hp : PatOk W H xs) (a1 : 1 ≤ a) (b1 : 1 ≤ b) : ext2 (repF xs H a b) (a * W) (b * H) = ext2 xs W H := by
  funext y x
  have h1 : y % (b * H) < b * H := Nat.mod_lt _ (Nat.mul_pos b1 hp.h1)
  have h2 : x % (a * W) < a * W := Nat.mod_lt _ (Nat.mul_pos a1 hp.w1)
  rw [ext2, rep_at hp h1 h2, ext2, ext2, Nat.mod_mod_of_dvd _ ⟨b, Nat.mul_comm _ _⟩, Nat.mod_mod_of_dvd _ ⟨a, Nat.mul_comm _ _⟩]
/-- A pattern is its least tile again and again. -/
theorem tile_back {xs : List (List UInt8)} {W H w h : Nat} (hp : PatOk W H xs) (hw : LeastN (PerX (ext2 xs W H)) W w) (hh : LeastN (PerY (ext2 xs W H)) H h) : repF (tileF xs w h) h (W / w) (H / h) = xs := by
  have ht := tile_ok hp hw.one hw.le hh.one hh.le
  have eW : W / w * w = W := Nat.div_mul_cancel (Nat.dvd_of_mod_eq_zero hw.div)
  have eH : H / h * h = H := Nat.div_mul_cancel (Nat.dvd_of_mod_eq_zero hh.div)
  refine pat_ext (W := W) (H := H) (by rw [repF, rowsF_len, eH]) hp.len (fun y hy => ?_) hp.row (fun y hy x hx => ?_)
  · rw [repF, rowsF_at _ (by rw [eH]; exact hy), Lib.repeatL_length, ht.row _ (Nat.mod_lt _ hh.one), eW]
  · rw [rep_at ht (by rw [eH]; exact hy) (by rw [eW]; exact hx), ext2, tile_at hp hw.le hh.le (Nat.mod_lt _ hh.one) (Nat.mod_lt _ hw.one)]
    have e1 := perX_mod hw.per y x
    have e2 := perY_mod hh.per y (x % w)
    rw [e1] at e2
    simp only [ext2] at e2
    have hyh := Nat.mod_lt y hh.one; have hxw := Nat.mod_lt x hw.one
    have hle1 := hh.le; have hle2 := hw.le
    rw [Nat.mod_eq_of_lt (show y % h < H by omega), Nat.mod_eq_of_lt (show x % w < W by omega), Nat.mod_eq_of_lt hy, Nat.mod_eq_of_lt hx] at e2
    exact e2
theorem least_same {P : Nat → Prop} (hg : ∀ a b, P a → P b → P (Nat.gcd a b)) {W a w v : Nat} (hW : P W) (a1 : 1 ≤ a) (hw : LeastN P W w) (hv : LeastN P (a * W) v) : v = w := by
  have h1 : ¬ w < v := fun h => hv.min w hw.one h (Nat.mod_eq_zero_of_dvd (Nat.dvd_trans (Nat.dvd_of_mod_eq_zero hw.div) (Nat.dvd_mul_left _ _))) hw.per
  have h2 : ¬ v < w := fun h => by
    have hg1 := hg v W hv.per hW
    have h3 : Nat.gcd v W ∣ v := Nat.gcd_dvd_left _ _
    have h4 : Nat.gcd v W ∣ W := Nat.gcd_dvd_right _ _
    have h5 : Nat.gcd v W ≤ v := Nat.le_of_dvd hv.one h3
    have h6 : 1 ≤ Nat.gcd v W := Nat.gcd_pos_of_pos_left _ hv.one
    exact hw.min _ h6 (by omega) (Nat.mod_eq_zero_of_dvd h4) hg1
  omega
/-- A tile that is repeated has the same least tile. -/
theorem tile_same {xs : List (List UInt8)} {W H a b w h w' h' : Nat} (hp : PatOk W H xs) (a1 : 1 ≤ a) (b1 : 1 ≤ b) (ha : a * W ≤ 24) (hb : b * H ≤ 24)
    (hw : LeastN (PerX (ext2 xs W H)) W w) (hh : LeastN (PerY (ext2 xs W H)) H h) (hw' : LeastN (PerX (ext2 (repF xs H a b) (a * W) (b * H))) (a * W) w') (hh' : LeastN (PerY (ext2 (repF xs H a b) (a * W) (b * H))) (b * H) h') :
    w' = w ∧ h' = h ∧ tileF (repF xs H a b) w' h' = tileF xs w h := by
  rw [rep_ext hp a1 b1] at hw' hh'
  have e1 := least_same perX_gcd perX_self a1 hw hw'
  have e2 := least_same perY_gcd perY_self b1 hh hh'
  subst e1 e2
  refine ⟨rfl, rfl, ?_⟩
  have hr := rep_ok hp a1 b1 ha hb
  have t1 := tile_ok hr hw'.one hw'.le hh'.one hh'.le
  have t2 := tile_ok hp hw.one hw.le hh.one hh.le
  refine pat_ext t1.len t2.len t1.row t2.row fun y hy x hx => ?_
  have l1 := hw'.le; have l2 := hh'.le; have l3 := hw.le; have l4 := hh.le
  rw [tile_at hr hw'.le hh'.le hy hx, tile_at hp hw.le hh.le hy hx, rep_at hp (by omega) (by omega), ext2, Nat.mod_eq_of_lt (by omega), Nat.mod_eq_of_lt (by omega)]
end Go.Proofs.Ytoghgbbepjpelaa
