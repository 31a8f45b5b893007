/- The contracts of FireFault, the reference's and the program's. -/
import Derived.Test.YtoghgbbepjpelaaHR1
import Derived.Test.YtoghgbbepjpelaaH1
namespace Go.Proofs.Ytoghgbbepjpelaa
open Go.RowKit
set_option linter.unusedVariables false

inductive FfR where
  | go (k : Nat) (held : Int)
  | stop (hour : Int) (name : ByteArray)
def ffCheck (xs : List HeatRule) (k : Nat) (held h b now : Int) : FfR :=
  if (nt xs k).Upto < now then .stop h ⟨#[104, 111, 116]⟩ else if b + (nt xs k).Rise < now then .stop h ⟨#[114, 105, 115, 101]⟩ else if now < b then .stop h ⟨#[102, 97, 108, 108]⟩ else .go k held
def ffStep (xs : List HeatRule) (n k : Nat) (held h b now : Int) : FfR :=
  if b = (nt xs k).Upto then
    (if now = b then .go k (held + 1) else if b < now then (if held < (nt xs k).Hold then .stop h ⟨#[104, 111, 108, 100]⟩ else if k + 1 = n then .stop h ⟨#[104, 111, 116]⟩ else ffCheck xs (k + 1) 0 h b now) else ffCheck xs k held h b now)
  else ffCheck xs k held h b now
def ff (xs : List HeatRule) (ds : List Int) (n : Nat) : Nat → FfR
  | 0 => .go 0 0
  | j + 1 => match ff xs ds n j with
    | .go k held => ffStep xs n k held ((j : Int) + 1) (nth ds j) (nth ds (j + 1))
    | .stop h s => .stop h s
theorem ff_next {xs : List HeatRule} {ds : List Int} {n j k : Nat} {held : Int} (h : ff xs ds n j = .go k held) : ff xs ds n (j + 1) = ffStep xs n k held ((j : Int) + 1) (nth ds j) (nth ds (j + 1)) := by rw [ff, h]
theorem ff_stop {xs : List HeatRule} {ds : List Int} {n j : Nat} {h : Int} {s : ByteArray} (hs : ff xs ds n j = .stop h s) {m : Nat} (hm : j ≤ m) : ff xs ds n m = .stop h s := by
  obtain ⟨d, rfl⟩ := Nat.exists_eq_add_of_le hm
  clear hm
  induction d with
  | zero => exact hs
  | succ d ih => rw [← Nat.add_assoc, ff, ih]
def ffEnd (xs : List HeatRule) (ds : List Int) (n m : Nat) : Int × ByteArray :=
  match ff xs ds n (m - 1) with
  | .stop h s => (h, s)
  | .go k held => if k + 1 < n ∨ ¬ nth ds (m - 1) = (nt xs (n - 1)).Upto ∨ held < (nt xs (n - 1)).Hold then ((m : Int), ⟨#[101, 110, 100]⟩) else (-1, ⟨#[]⟩)
theorem ffEnd_stop {xs : List HeatRule} {ds : List Int} {n m j : Nat} {h : Int} {s : ByteArray} (hs : ff xs ds n j = .stop h s) (hm : j ≤ m - 1) : ffEnd xs ds n m = (h, s) := by rw [ffEnd, ff_stop hs hm]
theorem ffEnd_bad {xs : List HeatRule} {ds : List Int} {n m k : Nat} {held : Int} (hs : ff xs ds n (m - 1) = .go k held) (h : k + 1 < n ∨ ¬ nth ds (m - 1) = (nt xs (n - 1)).Upto ∨ held < (nt xs (n - 1)).Hold) : ffEnd xs ds n m = ((m : Int), ⟨#[101, 110, 100]⟩) := by rw [ffEnd, hs]; exact if_pos h
theorem ffEnd_good {xs : List HeatRule} {ds : List Int} {n m k : Nat} {held : Int} (hs : ff xs ds n (m - 1) = .go k held) (h : ¬ (k + 1 < n ∨ ¬ nth ds (m - 1) = (nt xs (n - 1)).Upto ∨ held < (nt xs (n - 1)).Hold)) : ffEnd xs ds n m = (-1, ⟨#[]⟩) := by rw [ffEnd, hs]; exact if_neg h
def ffF (xs : List HeatRule) (ds : List Int) : Int × ByteArray := if (nt xs 0).Upto < nth ds 0 then (0, ⟨#[104, 111, 116]⟩) else ffEnd xs ds xs.length ds.length
def fireF (xs : List HeatRule) (ds : List Int) : Int × ByteArray × Int := if rulesOk xs = true then (if firB ds = true then ((ffF xs ds).1, (ffF xs ds).2, 0) else (0, ⟨#[]⟩, 2)) else (0, ⟨#[]⟩, 1)
/-- A number, a text and a code. -/
def NumText (p : Int × ByteArray × Int) (w : World) (e : Ending) (w' : World) : Prop := e = .returned (.tuple #[.int .i64 p.1, .string p.2.1, .int .i64 p.2.2]) ∧ Below w.heap.size w w'
theorem NumText.mk {p : Int × ByteArray × Int} {w w' : World} {a b : Int} {s : ByteArray} (h : p = (a, s, b)) (hb : Below w.heap.size w w') : NumText p w (.returned (.tuple #[.int .i64 a, .string s, .int .i64 b])) w' := by
  subst h; exact ⟨rfl, hb⟩
def NumText2 (p : Int × ByteArray) (w : World) (e : Ending) (w' : World) : Prop := e = .returned (.tuple #[.int .i64 p.1, .string p.2]) ∧ Below w.heap.size w w'
theorem NumText2.mk {p : Int × ByteArray} {w w' : World} {a : Int} {s : ByteArray} (h : p = (a, s)) (hb : Below w.heap.size w w') : NumText2 p w (.returned (.tuple #[.int .i64 a, .string s])) w' := by
  subst h; exact ⟨rfl, hb⟩
theorem rulesOk_facts {xs : List HeatRule} (h : rulesOk xs = true) : 1 ≤ xs.length ∧ xs.length ≤ 8 := by
  simp only [rulesOk, Bool.and_eq_true, inB_true] at h; omega
theorem rulesOk_rule {xs : List HeatRule} (h : rulesOk xs = true) {k : Nat} (hk : k < xs.length) : (1 ≤ (nt xs k).Upto ∧ (nt xs k).Upto ≤ 1300) ∧ (1 ≤ (nt xs k).Rise ∧ (nt xs k).Rise ≤ 300) ∧ (0 ≤ (nt xs k).Hold ∧ (nt xs k).Hold ≤ 48) := by
  simp only [rulesOk, Bool.and_eq_true] at h
  have h1 := rulesUp_at h.1 hk
  simp only [ruleB, Bool.and_eq_true, inB_true] at h1
  omega
theorem rulesOk_step {xs : List HeatRule} (h : rulesOk xs = true) {k : Nat} (hk : k + 1 < xs.length) : (nt xs k).Upto < (nt xs (k + 1)).Upto := by
  simp only [rulesOk, Bool.and_eq_true] at h
  have h1 := rulesUp_at h.1 hk
  simp only [ruleB, Bool.and_eq_true, Bool.or_eq_true, decide_eq_true_eq] at h1
  rcases h1.2.2.2 with h2 | h2
  · omega
  · simpa using h2

end Go.Proofs.Ytoghgbbepjpelaa
