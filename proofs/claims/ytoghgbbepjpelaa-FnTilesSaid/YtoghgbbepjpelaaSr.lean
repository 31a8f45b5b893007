/- The contracts of the source of choices that the draws read: l00From, next, pick, one. -/
import Derived.Test.YtoghgbbepjpelaaRows
import Derived.Test.YtoghgbbepjpelaaFz
import Derived.Test.YtoghgbbepjpelaaFr
namespace Go.Proofs.Ytoghgbbepjpelaa
open Go.RowKit
set_option linter.unusedVariables false

/-- A slice of bytes that can be read. -/
def Bys (w : World) (A : Option Addr) (n : Nat) : Prop := n ≤ 1048576 ∧ (0 < n → ∃ b off, A = some ⟨b, off, none⟩ ∧ b < w.heap.size ∧ ∀ j, j < n → ∃ v : Int, 0 ≤ v ∧ v ≤ 255 ∧ w.cell? ⟨b, off + j, none⟩ = some (.int .u8 v))
theorem Bys.grown {w w' : World} {A : Option Addr} {n : Nat} {row : Option Nat} (h : Bys w A n) (hg : w.grownBy w' row) (hne : 0 < n → ∀ b off, A = some ⟨b, off, none⟩ → some b ≠ row) : Bys w' A n :=
  ⟨h.1, fun hn => by
    obtain ⟨b, off, e, hb, hc⟩ := h.2 hn
    exact ⟨b, off, e, Nat.lt_of_lt_of_le hb hg.size, fun j hj => by
      obtain ⟨v, h0, h1, h2⟩ := hc j hj
      exact ⟨v, h0, h1, (World.cell?_of_block (hg.block b hb (hne hn b off e))).trans h2⟩⟩⟩
/-- A source in block p, of which at most m choices have been read. -/
def Src (w : World) (p : Nat) (m : Int) : Prop :=
  ∃ (A : Option Addr) (n c : Nat) (at_ seed : Int), w.cell? ⟨p, 0, none⟩ = some (.slice A n c) ∧ w.cell? ⟨p, 1, none⟩ = some (.int .i64 at_) ∧ w.cell? ⟨p, 2, none⟩ = some (.int .u64 seed) ∧ 0 ≤ at_ ∧ at_ ≤ m ∧ 0 ≤ seed ∧ seed ≤ 18446744073709551615 ∧
    (∀ o, w.frozen? ⟨p, o, none⟩ = false) ∧ p < w.heap.size ∧ Bys w A n ∧ (0 < n → ∀ b off, A = some ⟨b, off, none⟩ → b < p)
theorem Src.mono {w : World} {p : Nat} {m m' : Int} (h : Src w p m) (hm : m ≤ m') : Src w p m' := by
  obtain ⟨A, n, c, a, s, h1, h2, h3, h4, h5, h6⟩ := h
  exact ⟨A, n, c, a, s, h1, h2, h3, h4, by omega, h6⟩
/-- What a call that reads the source keeps. -/
def Drew (p : Nat) (w w' : World) : Prop := w.grownBy w' (some p)
theorem Drew.trans {p : Nat} {a b c : World} (h : Drew p a b) (k : Drew p b c) : Drew p a c :=
  ⟨k.os.trans h.os, k.tape.trans h.tape, k.output.trans h.output, Nat.le_trans h.size k.size, fun i hi hne => (k.block i (Nat.lt_of_lt_of_le hi h.size) hne).trans (h.block i hi hne)⟩
theorem Drew.refl (p : Nat) (w : World) : Drew p w w := World.grownBy.refl _ _
theorem Drew.of_below {p : Nat} {w w' : World} (h : Below w.heap.size w w') : Drew p w w' := ⟨h.os, h.tape, h.output, h.size, fun i hi _ => h.block i hi⟩
theorem Drew.below {B p : Nat} {a w w' : World} (h : Below B a w) (k : Drew p w w') (hB : B ≤ w.heap.size) (hp : B ≤ p) : Below B a w' := h.grown k hB (fun j e => by simp only [Option.some.injEq] at e; omega)

theorem Src.lt {w : World} {p : Nat} {m : Int} (h : Src w p m) : p < w.heap.size := by
  obtain ⟨_, _, _, _, _, _, _, _, _, _, _, _, _, h, _⟩ := h
  exact h
/-- What lies below block B is as it was: so is a source that lies there. -/
theorem Src.step {w w' : World} {p B : Nat} {m : Int} (h : Src w p m) (hb : Below B w w') (hB : p < B) : Src w' p m := by
  obtain ⟨A, n, c, a, s, h0, h1, h2, h3, h4, h5, h6, h7, h8, h9, h10⟩ := h
  exact ⟨A, n, c, a, s, (hb.cell (p := ⟨p, 0, none⟩) hB).trans h0, (hb.cell (p := ⟨p, 1, none⟩) hB).trans h1, (hb.cell (p := ⟨p, 2, none⟩) hB).trans h2, h3, h4, h5, h6,
    fun o => (hb.frozen (p := ⟨p, o, none⟩) hB).trans (h7 o), Nat.lt_of_lt_of_le h8 hb.size,
    ⟨h9.1, fun hn => by
      obtain ⟨b, off, e, hl, hc⟩ := h9.2 hn
      have hbB : b < B := Nat.lt_trans (h10 hn b off e) hB
      exact ⟨b, off, e, Nat.lt_of_lt_of_le hl hb.size, fun j hj => by
        obtain ⟨v, v0, v1, v2⟩ := hc j hj
        exact ⟨v, v0, v1, (hb.cell (p := ⟨b, off + j, none⟩) hbB).trans v2⟩⟩⟩, h10⟩
theorem Src.below {w w' : World} {p : Nat} {m : Int} (h : Src w p m) (hb : Below w.heap.size w w') : Src w' p m := h.step hb h.lt
theorem Drew.step {p : Nat} {w0 w w' : World} (h : Drew p w0 w) (hb : Below w0.heap.size w w') : Drew p w0 w' :=
  ⟨hb.os.trans h.os, hb.tape.trans h.tape, hb.output.trans h.output, Nat.le_trans h.size hb.size, fun i hi hne => (hb.block i hi).trans (h.block i hi hne)⟩
theorem Drew.cell {p : Nat} {w w' : World} (h : Drew p w w') {b : Nat} (hb : b < w.heap.size) (hne : b ≠ p) (o : Nat) : w'.cell? ⟨b, o, none⟩ = w.cell? ⟨b, o, none⟩ :=
  World.cell?_of_block (h.block b hb (fun e => hne (by simpa using e)))
theorem Drew.frozen {p : Nat} {w w' : World} (h : Drew p w w') {b : Nat} (hb : b < w.heap.size) (hne : b ≠ p) (o : Nat) : w'.frozen? ⟨b, o, none⟩ = w.frozen? ⟨b, o, none⟩ := by
  have h1 := h.block b hb (fun e => hne (by simpa using e))
  simp only [World.frozen?, h1]
theorem alloc_at {w : World} {b o : Nat} {v : Option Value} (h : w.cell? ⟨b, o, none⟩ = v) (hb : b < w.heap.size) (x : Obj) : (w.alloc x).cell? ⟨b, o, none⟩ = v :=
  (((Below.refl w.heap.size w).alloc (Nat.le_refl _) x).cell (p := ⟨b, o, none⟩) hb).trans h
theorem alloc_fz {w : World} {b o : Nat} {v : Bool} (h : w.frozen? ⟨b, o, none⟩ = v) (hb : b < w.heap.size) (x : Obj) : (w.alloc x).frozen? ⟨b, o, none⟩ = v :=
  (((Below.refl w.heap.size w).alloc (Nat.le_refl _) x).frozen (p := ⟨b, o, none⟩) hb).trans h
/-- A drawn number. -/
def DrawC (Q : Int → Prop) (p : Nat) (m : Int) (w : World) (e : Ending) (w' : World) : Prop := ∃ x : Int, e = .returned (.int .i64 x) ∧ Q x ∧ Src w' p m ∧ Drew p w w'
def inQ (lo hi x : Int) : Prop := lo ≤ x ∧ x ≤ hi
theorem wrap_u64_bound (x : Int) : 0 ≤ IntKind.u64.wrap x ∧ IntKind.u64.wrap x ≤ 18446744073709551615 := by rw [IntKind.wrap_u64]; omega
theorem and_255 (E : Int) (h0 : 0 ≤ E) (h1 : E ≤ 18446744073709551615) : 0 ≤ bits BinOp.and IntKind.u64 E 255 ∧ bits BinOp.and IntKind.u64 E 255 ≤ 255 := by
  have h := bits_and_u64_nat E.toNat 255 (by omega) (by omega)
  rw [Int.toNat_of_nonneg h0] at h
  have h2 : bits BinOp.and IntKind.u64 E 255 = ((E.toNat &&& 255 : Nat) : Int) := h
  rw [h2]
  have h3 : E.toNat &&& 255 ≤ 255 := Nat.and_le_right
  omega
/-- What next stores. -/
theorem src_stored {w : World} {p n c a q r : Nat} {A : Option Addr} {m x : Int} (h0 : w.cell? ⟨p, 0, none⟩ = some (.slice A n c)) (h1 : w.cell? ⟨p, 1, none⟩ = some (.int .i64 (a : Int))) {s : Int} (h2 : w.cell? ⟨p, 2, none⟩ = some (.int .u64 s))
    (ha : (a : Int) ≤ m) (hf : ∀ o, w.frozen? ⟨p, o, none⟩ = false) (hp : p < w.heap.size) (hB : Bys w A n) (hne : 0 < n → ∀ b off, A = some ⟨b, off, none⟩ → b < p) :
    Src ((((w.drewN q).setCell ⟨p, 1, none⟩ (.int .i64 ((a : Int) + 1))).setCell ⟨p, 2, none⟩ (.int .u64 (IntKind.u64.wrap x))).drewN r) p (m + 1) ∧
    Drew p w ((((w.drewN q).setCell ⟨p, 1, none⟩ (.int .i64 ((a : Int) + 1))).setCell ⟨p, 2, none⟩ (.int .u64 (IntKind.u64.wrap x))).drewN r) := by
  have hg : Drew p w ((((w.drewN q).setCell ⟨p, 1, none⟩ (.int .i64 ((a : Int) + 1))).setCell ⟨p, 2, none⟩ (.int .u64 (IntKind.u64.wrap x))).drewN r) :=
    Drew.trans (grown_set (grown_set (Drew.of_below (below_drewN (Below.refl _ _) q)) _ _) _ _) (Drew.of_below (below_drewN (Below.refl _ _) r))
  obtain ⟨x0, x1⟩ := wrap_u64_bound x
  refine ⟨⟨A, n, c, (a : Int) + 1, _, ?_, ?_, ?_, by omega, by omega, x0, x1, fun o => ?_, Nat.lt_of_lt_of_le hp hg.size, hB.grown hg (fun hn b off e h => Nat.ne_of_lt (hne hn b off e) (by simpa using h)), hne⟩, hg⟩
  · rw [World.cell?_drewN, World.cell?_setCell_other _ _ _ _ (by simp), World.cell?_setCell_other _ _ _ _ (by simp), World.cell?_drewN]; exact h0
  · rw [World.cell?_drewN, World.cell?_setCell_other _ _ _ _ (by simp), World.cell?_setCell_same _ _ _ (by rw [World.cell?_drewN]; exact h1)]
  · rw [World.cell?_drewN, World.cell?_setCell_same _ _ _ (by rw [World.cell?_setCell_other _ _ _ _ (by simp), World.cell?_drewN]; exact h2)]
  · rw [World.frozen?_drewN, World.frozen?_setCell, World.frozen?_setCell, World.frozen?_drewN]; exact hf o

set_option maxHeartbeats 1000000 in
theorem next_any (p : Nat) (m : Int) (w : World) (h : Src w p m) (hm : m ≤ 1000000000) :
    Calls Try.prog 80 #[.pointer (some ⟨p, 0, none⟩)] w (DrawC (inQ 0 255) p (m + 1) w) := by
  obtain ⟨A, n, c, at_, seed, h0, h1, h2, ha0, ha1, hs0, hs1, hf, hp, hB, hne⟩ := h
  obtain ⟨a, rfl⟩ := Int.eq_ofNat_of_zero_le ha0
  have hf0 := hf 0; have hf1 := hf 1; have hf2 := hf 2
  have HF := Lib.hid hf; clear hf
  have HB := Lib.hid hB
  have hn := hB.1
  have HNE := Lib.hid hne; clear hne
  by_cases hlt : a < n
  · obtain ⟨b, off, rfl, hb, hc⟩ := hB.2 (by omega)
    obtain ⟨v, hv0, hv1, hcv⟩ := hc a hlt
    clear hc hB
    have hbp : b ≠ p := Nat.ne_of_lt (HNE.out (by omega) b off rfl)
    go_enter Try.func80, Try.ntmps80
    go_wp2
    go_quiet (fail)
    go_wp2
    go_quiet (fail)
    go_wp2
    go_quiet (fail)
    go_wp2
    go_ret
    have hst := fun q r => src_stored (q := q) (r := r) h0 h1 h2 ha1 HF.out hp HB.out HNE.out (x := IntKind.u64.wrap (IntKind.u64.wrap (seed * 6364136223846793005) + v) + 1442695040888963407)
    first | exact ⟨v, rfl, ⟨hv0, hv1⟩, (hst _ _).1, (hst _ _).2⟩ | (rw [World.drewN_drewN]; exact ⟨v, rfl, ⟨hv0, hv1⟩, (hst _ _).1, (hst _ _).2⟩)
  · have hd : decide (a < n) = false := by simpa using hlt
    have hd2 : decide ((a : Int) + 1 ≤ (n : Int)) = false := by simp; omega
    go_enter Try.func80, Try.ntmps80
    go_wp2
    go_quiet (fail)
    go_wp2
    go_quiet (fail)
    go_wp2
    go_ret
    have hst := fun q r => src_stored (q := q) (r := r) h0 h1 h2 ha1 HF.out hp HB.out HNE.out (x := IntKind.u64.wrap (IntKind.u64.wrap (seed * 6364136223846793005)) + 1442695040888963407)
    obtain ⟨e0, e1⟩ := wrap_u64_bound (IntKind.u64.wrap (IntKind.u64.wrap (seed * 6364136223846793005)) + 1442695040888963407)
    obtain ⟨y0, y1⟩ := and_255 (IntKind.u64.wrap (IntKind.u64.wrap (IntKind.u64.wrap (seed * 6364136223846793005)) + 1442695040888963407) / 1099511627776) (by omega) (by omega)
    have hw := IntWalk.wrap64_in _ (show -9223372036854775808 ≤ bits BinOp.and IntKind.u64 (IntKind.u64.wrap (IntKind.u64.wrap (IntKind.u64.wrap (seed * 6364136223846793005)) + 1442695040888963407) / 1099511627776) 255 ∧ _ ≤ 9223372036854775807 from ⟨by omega, by omega⟩)
    rw [hw]
    exact ⟨_, rfl, ⟨y0, y1⟩, (hst _ _).1, (hst _ _).2⟩

set_option maxHeartbeats 1000000 in
theorem pick_any (p : Nat) (k m : Int) (w : World) (h : Src w p m) (hm : m ≤ 900000000) :
    Calls Try.prog 49 #[.pointer (some ⟨p, 0, none⟩), .int .i64 k] w (DrawC (fun x => 0 ≤ x ∧ (x = 0 ∨ x < k)) p (m + 2) w) := by
  by_cases h1 : k ≤ 1
  · go_enter Try.func49, Try.ntmps49
    go_wp2_with fail
    go_ret
    exact ⟨0, rfl, ⟨by omega, .inl rfl⟩, h.mono (by omega), Drew.refl _ _⟩
  · by_cases h2 : 200 < k
    · go_enter Try.func49, Try.ntmps49
      go_wp2_with fail
      refine (next_any p m _ h (by omega)).mono ?_; rintro e w1 ⟨x, rfl, ⟨hx0, hx1⟩, hS1, hD1⟩
      have HS1 := Lib.hid hS1; clear hS1
      go_wp2_with fail
      refine (next_any p (m + 1) _ HS1.out (by omega)).mono ?_; rintro e w2 ⟨y, rfl, ⟨hy0, hy1⟩, hS2, hD2⟩
      have HS2 := Lib.hid hS2; clear hS2
      have hk : 0 < k := by omega
      have hr0 : 0 ≤ (x * 256 + y) % k := Int.emod_nonneg _ (by omega)
      have hr1 : (x * 256 + y) % k < k := Int.emod_lt_of_pos _ hk
      have hq0 : 0 ≤ x * 256 + y := by omega
      go_wp2_with fail
      go_ret
      exact ⟨_, rfl, ⟨hr0, .inr hr1⟩, HS2.out.mono (by omega), hD1.trans hD2⟩
    · go_enter Try.func49, Try.ntmps49
      go_wp2_with fail
      refine (next_any p m _ h (by omega)).mono ?_; rintro e w1 ⟨x, rfl, ⟨hx0, hx1⟩, hS1, hD1⟩
      have HS1 := Lib.hid hS1; clear hS1
      have hk : 0 < k := by omega
      have hr0 : 0 ≤ x % k := Int.emod_nonneg _ (by omega)
      have hr1 : x % k < k := Int.emod_lt_of_pos _ hk
      go_wp2_with fail
      go_ret
      exact ⟨_, rfl, ⟨hr0, .inr hr1⟩, HS1.out.mono (by omega), hD1⟩

def DrawB (p : Nat) (m : Int) (w : World) (e : Ending) (w' : World) : Prop := ∃ x : Bool, e = .returned (.bool x) ∧ Src w' p m ∧ Drew p w w'
theorem one_any (p : Nat) (k m : Int) (w : World) (h : Src w p m) (hm : m ≤ 900000000) :
    Calls Try.prog 47 #[.pointer (some ⟨p, 0, none⟩), .int .i64 k] w (DrawB p (m + 2) w) := by
  go_enter Try.func47, Try.ntmps47
  go_wp2_with fail
  refine (pick_any p k m _ h hm).mono ?_; rintro e w1 ⟨x, rfl, _, hS1, hD1⟩
  have HS1 := Lib.hid hS1; clear hS1
  go_wp2_with fail
  go_ret
  exact ⟨_, rfl, HS1.out, hD1⟩

def Begun (w : World) (e : Ending) (w' : World) : Prop := ∃ p, e = .returned (.pointer (some ⟨p, 0, none⟩)) ∧ w.heap.size ≤ p ∧ Src w' p 0 ∧ Below w.heap.size w w'
theorem from_any (A : Option Addr) (n c : Nat) (w : World) (h : Bys w A n) :
    Calls Try.prog 45 #[.slice A n c] w (Begun w) := by
  have HB := Lib.hid h; clear h
  go_enter Try.func45, Try.ntmps45
  go_wp2_with fail
  go_ret
  have hb : Below w.heap.size w (w.alloc (.cells #[.slice A n c, .int .i64 0, .int .u64 0] 79)) := (Below.refl _ _).alloc (Nat.le_refl _) _
  have hlt : 0 < n → ∀ b off, A = some ⟨b, off, none⟩ → b < w.heap.size := fun h0 b off e => by
    obtain ⟨b', off', e', hb', _⟩ := HB.out.2 h0
    rw [e'] at e
    simp only [Option.some.injEq, Addr.mk.injEq, and_true] at e
    omega
  exact ⟨_, rfl, Nat.le_refl _, ⟨A, n, c, 0, 0, by go_simp, by go_simp, by go_simp, by omega, by omega, by omega, by omega, fun o => by go_simp, by simp,
    HB.out.grown (Drew.of_below (p := w.heap.size) hb) (fun h0 b off e h => by have := hlt h0 b off e; simp only [Option.some.injEq] at h; omega), fun h0 b off e => by have := hlt h0 b off e; omega⟩, hb⟩
end Go.Proofs.Ytoghgbbepjpelaa
