/- The fastest firing has no fault, and no firing without faults is shorter: the plain laws. No function is walked here. -/
import Derived.Test.YtoghgbbepjpelaaGreatDoorX1
import Derived.Test.YtoghgbbepjpelaaGreatDoorX2
import Derived.Test.YtoghgbbepjpelaaGreatDoorX3
namespace Go.Proofs.YtoghgbbepjpelaaGreatDoor
open Go.RowKit
set_option linter.unusedVariables false

theorem nth_snoc_eq (l : List Int) (v : Int) : nth (l ++ [v]) l.length = v := by simp [nth]
/-- What holds of each step. -/
structure FsInv (xs : List HeatRule) (n : Nat) (s : Fs) : Prop where
  hi : s.k < n → s.at_ ≤ (nt xs s.k).Upto
  lo : 0 < s.k → (nt xs (s.k - 1)).Upto ≤ s.at_
  pos : 0 ≤ s.at_ ∧ s.at_ ≤ 1300
  kn : s.k ≤ n
  len : 1 ≤ s.out.length
  last : nth s.out (s.out.length - 1) = s.at_
  all : ∀ j, j < s.out.length → 0 ≤ nth s.out j ∧ nth s.out j ≤ 1300
theorem snoc_all_b {l : List Int} {v : Int} (h : ∀ j, j < l.length → 0 ≤ nth l j ∧ nth l j ≤ 1300) (hv : 0 ≤ v ∧ v ≤ 1300) : ∀ j, j < (l ++ [v]).length → 0 ≤ nth (l ++ [v]) j ∧ nth (l ++ [v]) j ≤ 1300 := by
  intro j hj
  rw [List.length_append, List.length_singleton] at hj
  rcases Nat.lt_or_ge j l.length with h1 | h1
  · rw [nth_append_left h1]; exact h j h1
  · obtain rfl : j = l.length := by omega
    rw [nth_snoc_eq]; exact hv
theorem fs_inv {xs : List HeatRule} {n : Nat} {start : Int} (hok : rulesOk xs = true) (hn : xs.length = n) (h0 : 0 ≤ start) (h1 : start ≤ (nt xs 0).Upto) : ∀ i, FsInv xs n (fsI xs n start i) := by
  intro i
  have hl := rulesOk_facts hok
  have hu := (rulesOk_rule hok (k := 0) (by omega)).1
  induction i with
  | zero =>
    refine ⟨fun _ => h1, fun h => absurd h (by show ¬ 0 < 0; omega), ⟨h0, by show start ≤ 1300; omega⟩, Nat.zero_le _, by show 1 ≤ [start].length; simp, rfl, fun j hj => ?_⟩
    have : j = 0 := by have : j < 1 := hj; omega
    subst this
    exact ⟨h0, by show start ≤ 1300; omega⟩
  | succ i ih =>
    rw [fsI]
    generalize fsI xs n start i = s at ih
    obtain ⟨k, h, out, a⟩ := s
    obtain ⟨hhi, hlo, hpos, hkn, hlen, hlast, hall⟩ := ih
    simp only at hhi hlo hpos hkn hlen hlast hall
    unfold fsStep
    simp only
    split
    · rename_i hk
      obtain ⟨⟨u0, u1⟩, ⟨r0, r1⟩, d0, d1⟩ := rulesOk_rule hok (k := k) (by omega)
      have hh := hhi hk
      split
      · rename_i hlt
        refine ⟨fun _ => ?_, fun hp => ?_, ⟨?_, ?_⟩, hkn, by simp, ?_, snoc_all_b hall ⟨by omega, by omega⟩⟩
        · show min _ _ ≤ (nt xs k).Upto; omega
        · have := hlo hp
          show (nt xs (k - 1)).Upto ≤ min _ _; omega
        · show 0 ≤ min _ _; omega
        · show min _ _ ≤ (1300 : Int); omega
        · show nth (out ++ [_]) ((out ++ [_]).length - 1) = _
          rw [List.length_append, List.length_singleton, Nat.add_sub_cancel, nth_snoc_eq]
      · rename_i hge
        split
        · refine ⟨fun _ => hh, hlo, hpos, hkn, by simp, ?_, snoc_all_b hall hpos⟩
          show nth (out ++ [_]) ((out ++ [_]).length - 1) = _
          rw [List.length_append, List.length_singleton, Nat.add_sub_cancel, nth_snoc_eq]
        · refine ⟨fun hk1 => ?_, fun _ => ?_, hpos, hk, hlen, hlast, hall⟩
          · have := rulesOk_step hok (k := k) (by have hk2 : k + 1 < n := hk1; omega)
            show a ≤ (nt xs (k + 1)).Upto; omega
          · show (nt xs (k + 1 - 1)).Upto ≤ a
            rw [Nat.add_sub_cancel]; omega
    · exact ⟨hhi, hlo, hpos, hkn, hlen, hlast, hall⟩
theorem fs_first {xs : List HeatRule} {n : Nat} {start : Int} : ∀ i, 1 ≤ (fsI xs n start i).out.length ∧ nth (fsI xs n start i).out 0 = start := by
  intro i
  induction i with
  | zero => exact ⟨by show 1 ≤ [start].length; simp, rfl⟩
  | succ i ih =>
    rw [fsI]
    generalize fsI xs n start i = s at ih
    obtain ⟨k, h, out, a⟩ := s
    obtain ⟨hl, hs⟩ := ih
    simp only at hl hs
    unfold fsStep
    simp only
    split
    · split
      · exact ⟨by simp, (nth_append_left (by omega)).trans hs⟩
      · split
        · exact ⟨by simp, (nth_append_left (by omega)).trans hs⟩
        · exact ⟨hl, hs⟩
    · exact ⟨hl, hs⟩
theorem fs_step_len {xs : List HeatRule} {n : Nat} {start : Int} : ∀ i, (fsI xs n start i).k < n → (fsI xs n start i).k + (fsI xs n start i).out.length = i + 1 := by
  intro i
  induction i with
  | zero => intro _; rfl
  | succ i ih =>
    rw [fsI]
    generalize fsI xs n start i = s at ih
    obtain ⟨k, h, out, a⟩ := s
    simp only at ih
    unfold fsStep
    simp only
    split
    · rename_i hk
      have := ih hk
      split
      · intro _; simp; omega
      · split
        · intro _; simp; omega
        · intro _; show k + 1 + out.length = _; omega
    · rename_i hk
      intro h; exact absurd h hk
theorem fs_ends {xs : List HeatRule} {n : Nat} {start : Int} (h : ¬ fsFull xs n start) : ∃ i, n ≤ (fsI xs n start i).k := by
  refine ⟨n + 200, ?_⟩
  rcases Nat.lt_or_ge (fsI xs n start (n + 200)).k n with h1 | h1
  · have h2 := fs_step_len (xs := xs) (start := start) _ h1
    have h3 : ¬ 200 < (fsI xs n start (n + 200)).out.length := fun h4 => h ⟨_, h4⟩
    omega
  · exact h1
theorem fs_prefix (xs : List HeatRule) (n : Nat) (start : Int) (i : Nat) : ∀ m, (fsI xs n start i).out <+: (fsI xs n start (i + m)).out := by
  intro m
  induction m with
  | zero => exact List.prefix_refl _
  | succ m ih =>
    rw [← Nat.add_assoc, fsI, fsStep]
    split
    · split
      · exact ih.trans (List.prefix_append _ _)
      · split
        · exact ih.trans (List.prefix_append _ _)
        · exact ih
    · exact ih
theorem prefix_nth {l ds : List Int} (h : l <+: ds) {j : Nat} (hj : j < l.length) : nth ds j = nth l j := by
  obtain ⟨t, rfl⟩ := h
  exact nth_append_left hj

theorem fast_ok {xs : List HeatRule} {start : Int} (h : frC xs start = 0) (hF : ¬ fsFull xs xs.length start) : 1 ≤ (fsEnd xs xs.length start).length ∧ (fsEnd xs xs.length start).length ≤ 200 := by
  obtain ⟨i, hi⟩ := fs_ends hF
  have hlen : (fsI xs xs.length start i).out.length ≤ 200 := Nat.le_of_not_lt fun hlt => hF ⟨i, hlt⟩
  have hfst := (fs_first (xs := xs) (n := xs.length) (start := start) i).1
  cases e : fsI xs xs.length start i with
  | mk k hh out a =>
    rw [e] at hi hlen hfst
    rw [fsEnd_eq e hi]
    exact ⟨hfst, hlen⟩
/-- The fault finder beside the fastest firing. -/
def FsF (xs : List HeatRule) (ds : List Int) (n : Nat) (s : Fs) : Prop :=
  (s.k < n ∧ ff xs ds n (s.out.length - 1) = .go s.k s.h ∧ (0 < s.h → s.at_ = (nt xs s.k).Upto)) ∨
  (1 ≤ s.k ∧ s.h = 0 ∧ s.at_ = (nt xs (s.k - 1)).Upto ∧ ∃ held, ff xs ds n (s.out.length - 1) = .go (s.k - 1) held ∧ (nt xs (s.k - 1)).Hold ≤ held)
theorem check_go {xs : List HeatRule} {k : Nat} {held h b now : Int} (h1 : now ≤ (nt xs k).Upto) (h2 : now ≤ b + (nt xs k).Rise) (h3 : b ≤ now) : ffCheck xs k held h b now = .go k held := by
  rw [ffCheck, if_neg (by omega), if_neg (by omega), if_neg (by omega)]
theorem fs_ff {xs : List HeatRule} {ds : List Int} {n : Nat} {start : Int} (hok : rulesOk xs = true) (hn : xs.length = n) (h0 : 0 ≤ start) (h1 : start ≤ (nt xs 0).Upto) :
    ∀ i, (fsI xs n start i).out <+: ds → FsF xs ds n (fsI xs n start i) := by
  intro i
  have hl := rulesOk_facts hok
  induction i with
  | zero => intro _; exact .inl ⟨by show 0 < n; omega, rfl, fun h => absurd h (by show ¬ 0 < 0; omega)⟩
  | succ i ih =>
    intro hp
    have hpre := (fs_prefix xs n start i 1).trans hp
    have hI := ih hpre
    have hV := fs_inv hok hn h0 h1 i
    rw [fsI] at hp ⊢
    generalize fsI xs n start i = s at hp hpre hI hV
    obtain ⟨k, h, out, a⟩ := s
    obtain ⟨hhi, hlo, hpos, hkn, hlen, hlast, hall⟩ := hV
    simp only at hhi hlo hpos hkn hlen hlast hall hpre
    have hb : nth ds (out.length - 1) = a := (prefix_nth hpre (by omega)).trans hlast
    unfold fsStep at hp ⊢
    simp only at hp ⊢
    by_cases hk : k < n
    · rw [if_pos hk] at hp ⊢
      obtain ⟨⟨u0, u1⟩, ⟨r0, r1⟩, d0, d1⟩ := rulesOk_rule hok (k := k) (by omega)
      have hh := hhi hk
      have hjj : out.length - 1 + 1 = out.length := by omega
      have hprev : 1 ≤ k → (nt xs (k - 1)).Upto < (nt xs k).Upto := fun hk1 => by
        have := rulesOk_step hok (k := k - 1) (by omega)
        rwa [show k - 1 + 1 = k by omega] at this
      have hnext : ∀ {q : Nat} {held : Int}, ff xs ds n (out.length - 1) = .go q held → ∀ v, (out ++ [v]) <+: ds → ff xs ds n ((out ++ [v]).length - 1) = ffStep xs n q held (((out.length - 1 : Nat) : Int) + 1) a v := fun hq v hv => by
        rw [List.length_append, List.length_singleton, Nat.add_sub_cancel]
        have h2 := ff_next hq
        rw [hjj, hb, (prefix_nth hv (by simp)).trans (nth_snoc_eq _ _)] at h2
        exact h2
      by_cases hlt : a < (nt xs k).Upto
      · rw [if_pos hlt] at hp ⊢
        obtain ⟨v, hv⟩ : ∃ v, min (a + (nt xs k).Rise) (nt xs k).Upto = v := ⟨_, rfl⟩
        rw [hv] at hp ⊢
        have v1 : a < v := by omega
        have v2 : v ≤ (nt xs k).Upto := by omega
        have v3 : v ≤ a + (nt xs k).Rise := by omega
        rcases hI with ⟨_, hff, hh0⟩ | ⟨hk1, hh0, ha, held, hff, hH⟩
        · simp only at hff hh0
          have hz : h = 0 := by
            rcases Nat.eq_zero_or_pos h with e | e
            · exact e
            · have := hh0 e; omega
          subst hz
          refine .inl ⟨hk, ?_, fun e => absurd e (by show ¬ 0 < 0; omega)⟩
          refine (hnext hff v hp).trans ?_
          rw [ffStep, if_neg (by omega)]
          exact check_go v2 v3 (by omega)
        · simp only at hk1 hh0 ha hff hH
          subst hh0
          refine .inl ⟨hk, ?_, fun e => absurd e (by show ¬ 0 < 0; omega)⟩
          refine (hnext hff v hp).trans ?_
          rw [ffStep, if_pos ha, if_neg (by omega), if_pos v1, if_neg (by omega), if_neg (by omega), show k - 1 + 1 = k by omega]
          exact check_go v2 v3 (by omega)
      · rw [if_neg hlt] at hp ⊢
        have hau : a = (nt xs k).Upto := by omega
        by_cases hh2 : (h : Int) < (nt xs k).Hold
        · rw [if_pos hh2] at hp ⊢
          rcases hI with ⟨_, hff, hh0⟩ | ⟨hk1, hh0, ha, held, hff, hH⟩
          · refine .inl ⟨hk, ?_, fun _ => hau⟩
            refine (hnext hff a hp).trans ?_
            rw [ffStep, if_pos hau, if_pos rfl]
            simp
          · simp only at hk1 ha
            have := hprev hk1; omega
        · rw [if_neg hh2] at hp ⊢
          rcases hI with ⟨_, hff, hh0⟩ | ⟨hk1, hh0, ha, held, hff, hH⟩
          · simp only at hff
            refine .inr ⟨by show 1 ≤ k + 1; omega, rfl, by show a = (nt xs (k + 1 - 1)).Upto; rw [Nat.add_sub_cancel]; exact hau, h, by show ff xs ds n (out.length - 1) = .go (k + 1 - 1) h; rw [Nat.add_sub_cancel]; exact hff, by show (nt xs (k + 1 - 1)).Hold ≤ h; rw [Nat.add_sub_cancel]; omega⟩
          · simp only at hk1 ha
            have := hprev hk1; omega
    · rw [if_neg hk]; exact hI
/-- The fastest firing has no fault. -/
theorem fast_good {xs : List HeatRule} {start : Int} (h : ffrC xs start = 0) : rulesOk xs = true ∧ firB (fsEnd xs xs.length start) = true ∧ ffF xs (fsEnd xs xs.length start) = (-1, ⟨#[]⟩) ∧ 1 ≤ (fsEnd xs xs.length start).length := by
  have hC : frC xs start = 0 := by
    unfold ffrC at h
    split at h
    · assumption
    · exact h
  have hF : ¬ fsFull xs xs.length start := fun hf => by rw [(ffr_full hC hf).1] at h; cases h
  obtain ⟨hok, hr⟩ := frC_zero hC
  obtain ⟨h0, h1⟩ := inB_true.1 hr
  have hl := rulesOk_facts hok
  obtain ⟨i, hi⟩ := fs_ends hF
  have hE : fsEnd xs xs.length start = (fsI xs xs.length start i).out := by
    cases e : fsI xs xs.length start i with
    | mk k hh out a =>
      rw [e] at hi
      exact fsEnd_eq e hi
  have hV := fs_inv hok rfl h0 h1 i
  have hlen : (fsI xs xs.length start i).out.length ≤ 200 := Nat.le_of_not_lt fun hlt => hF ⟨i, hlt⟩
  have hff := fs_ff (ds := fsEnd xs xs.length start) hok rfl h0 h1 i (by rw [hE]; exact List.prefix_refl _)
  have hfst := (fs_first (xs := xs) (n := xs.length) (start := start) i).2
  rw [hE] at hff ⊢
  obtain ⟨hhi, hlo, hpos, hkn, hl1, hlast, hall⟩ := hV
  refine ⟨hok, ?_, ?_, hl1⟩
  · rw [firB, Bool.and_eq_true]
    refine ⟨inB_true.2 ⟨by omega, by omega⟩, ?_⟩
    rw [allIn, List.all_eq_true]
    intro x hx
    obtain ⟨j, hj, rfl⟩ := List.getElem_of_mem hx
    have := hall j hj
    rw [nth_lt hj] at this
    exact inB_true.2 this
  · rw [ffF, if_neg (by rw [hfst]; omega)]
    rcases hff with ⟨hk, _⟩ | ⟨hk1, hh0, ha, held, hgo, hH⟩
    · omega
    · have ek : (fsI xs xs.length start i).k - 1 = xs.length - 1 := by omega
      rw [ek] at hgo ha hH
      refine ffEnd_good hgo ?_
      rw [hlast]
      omega

/-- The fastest firing is as far on as another one. -/
def Ahead (xs : List HeatRule) (k : Nat) (held b : Int) (s : Fs) : Prop := k < s.k ∨ (s.k = k ∧ b ≤ s.at_ ∧ (held ≤ s.h ∨ (nt xs k).Hold ≤ s.h))
def Dom (xs : List HeatRule) (n : Nat) (start : Int) (j k : Nat) (held b : Int) : Prop := ∃ i, (fsI xs n start i).out.length ≤ j + 1 ∧ Ahead xs k held b (fsI xs n start i)
theorem Dom.wait {xs : List HeatRule} {n j k k2 : Nat} {start held b held2 b2 : Int} (i : Nat) (hl : (fsI xs n start i).out.length ≤ j + 1) (h : Ahead xs k2 held2 b2 (fsI xs n start i)) : Dom xs n start (j + 1) k2 held2 b2 := ⟨i, by omega, h⟩
theorem dom_climb {xs : List HeatRule} {n j k : Nat} {start now held : Int} {i : Nat} {s : Fs} (hi : fsI xs n start i = s) (hsk : s.k = k) (hk : k < n) (hlt : s.at_ < (nt xs k).Upto) (hl : s.out.length ≤ j + 1) (h1 : now ≤ (nt xs k).Upto) (h2 : now ≤ s.at_ + (nt xs k).Rise) (hh : held ≤ 0) :
    Dom xs n start (j + 1) k held now := by
  obtain ⟨k', h', out, a⟩ := s
  simp only at hsk hlt hl h2
  subst hsk
  refine ⟨i + 1, ?_, .inr ?_⟩
  · rw [fs_climb hi hk hlt]; simp; omega
  · rw [fs_climb hi hk hlt]
    exact ⟨rfl, by show now ≤ min _ _; omega, .inl (by show held ≤ (h' : Int); omega)⟩
theorem dom_step {xs : List HeatRule} {ds : List Int} {n : Nat} (hok : rulesOk xs = true) (hn : xs.length = n) (h0 : 0 ≤ nth ds 0) (h1 : nth ds 0 ≤ (nt xs 0).Upto) :
    ∀ (j k : Nat) (held : Int), ff xs ds n j = .go k held → k < n ∧ nth ds j ≤ (nt xs k).Upto ∧ 0 ≤ held ∧ (0 < held → nth ds j = (nt xs k).Upto) ∧ Dom xs n (nth ds 0) j k held (nth ds j) := by
  have hl := rulesOk_facts hok
  intro j
  induction j with
  | zero =>
    intro k held h
    rw [ff] at h
    obtain ⟨rfl, rfl⟩ := FfR.go.inj h
    exact ⟨by omega, h1, by omega, fun h => absurd h (by omega), 0, by show [nth ds 0].length ≤ 1; simp, .inr ⟨rfl, Int.le_refl _, .inl (by show (0 : Int) ≤ ((0 : Nat) : Int); omega)⟩⟩
  | succ j ih =>
    intro k2 held2 h
    cases e : ff xs ds n j with
    | stop a s => rw [ff, e] at h; cases h
    | go k held =>
      obtain ⟨hk, hle, hh0, hhb, i, hlen, hA⟩ := ih k held e
      rw [ff_next e] at h
      have hV := fs_inv hok hn h0 h1 i
      obtain ⟨⟨u0, u1⟩, ⟨r0, r1⟩, d0, d1⟩ := rulesOk_rule hok (k := k) (by omega)
      generalize nth ds j = b at *
      generalize nth ds (j + 1) = now at *
      generalize nth ds 0 = start at *
      obtain ⟨s, hs⟩ : ∃ s, fsI xs n start i = s := ⟨_, rfl⟩
      rw [hs] at hlen hA hV
      obtain ⟨hhi, hlo, hpos, hkn, hl1, hlast, hall⟩ := hV
      have hchk : ∀ {q : Nat} {hq : Int}, ffCheck xs q hq ((j : Int) + 1) b now = .go k2 held2 → k2 = q ∧ held2 = hq ∧ now ≤ (nt xs q).Upto ∧ now ≤ b + (nt xs q).Rise ∧ b ≤ now := by
        intro q hq hc
        rw [ffCheck] at hc
        split at hc
        · cases hc
        · split at hc
          · cases hc
          · split at hc
            · cases hc
            · obtain ⟨rfl, rfl⟩ := FfR.go.inj hc
              exact ⟨rfl, rfl, by omega, by omega, by omega⟩
      rw [ffStep] at h
      by_cases hbu : b = (nt xs k).Upto
      · rw [if_pos hbu] at h
        by_cases hnb : now = b
        · rw [if_pos hnb] at h
          obtain ⟨rfl, rfl⟩ := FfR.go.inj h
          refine ⟨hk, by omega, by omega, fun _ => by omega, ?_⟩
          rcases hA with hA | ⟨hsk, hb, hhd⟩
          · exact ⟨i, by rw [hs]; omega, by rw [hs]; exact .inl hA⟩
          · have hat := hhi (by omega)
            rw [hsk] at hat
            by_cases hfull : (nt xs k).Hold ≤ s.h
            · exact ⟨i, by rw [hs]; omega, by rw [hs]; exact .inr ⟨hsk, by omega, .inr hfull⟩⟩
            · obtain ⟨k', h', out, a⟩ := s
              simp only at hsk hb hhd hfull hat hlen
              subst hsk
              refine ⟨i + 1, ?_, ?_⟩
              · rw [fs_hold hs hk (by omega) (by omega)]; simp; omega
              · rw [fs_hold hs hk (by omega) (by omega)]
                exact .inr ⟨rfl, by show now ≤ a; omega, .inl (by show held + 1 ≤ ((h' + 1 : Nat) : Int); omega)⟩
        · rw [if_neg hnb] at h
          by_cases hbn : b < now
          · rw [if_pos hbn] at h
            by_cases hH : held < (nt xs k).Hold
            · rw [if_pos hH] at h; cases h
            · rw [if_neg hH] at h
              by_cases hlastk : k + 1 = n
              · rw [if_pos hlastk] at h; cases h
              · rw [if_neg hlastk] at h
                obtain ⟨rfl, rfl, c1, c2, c3⟩ := hchk h
                have hk1 : k + 1 < n := by omega
                refine ⟨hk1, c1, by omega, fun h => absurd h (by omega), ?_⟩
                have hup := rulesOk_step hok (k := k) (by omega)
                rcases hA with hA | ⟨hsk, hb, hhd⟩
                · rcases Nat.lt_or_ge (k + 1) s.k with hgt | hge
                  · exact ⟨i, by rw [hs]; omega, by rw [hs]; exact .inl hgt⟩
                  · have hsk : s.k = k + 1 := by omega
                    have hlo' := hlo (by omega)
                    rw [hsk, Nat.add_sub_cancel] at hlo'
                    by_cases hat : s.at_ < (nt xs (k + 1)).Upto
                    · exact dom_climb hs hsk hk1 hat hlen c1 (by omega) (by omega)
                    · exact ⟨i, by rw [hs]; omega, by rw [hs]; exact .inr ⟨hsk, by omega, .inl (by omega)⟩⟩
                · have hat := hhi (by omega)
                  rw [hsk] at hat
                  obtain ⟨k', h', out, a⟩ := s
                  simp only at hsk hb hhd hat hlen
                  subst hsk
                  have hn1 := fs_next hs hk (by omega) (by omega)
                  exact dom_climb hn1 rfl hk1 (by show a < _; omega) hlen c1 (by show now ≤ a + _; omega) (by omega)
          · rw [if_neg hbn] at h
            obtain ⟨rfl, rfl, c1, c2, c3⟩ := hchk h
            omega
      · rw [if_neg hbu] at h
        obtain ⟨rfl, rfl, c1, c2, c3⟩ := hchk h
        have hz : held2 = 0 := by
          rcases Int.lt_or_le 0 held2 with hp | hp
          · exact absurd (hhb hp) hbu
          · omega
        refine ⟨hk, c1, hh0, fun hp => by omega, ?_⟩
        rcases hA with hA | ⟨hsk, hb, hhd⟩
        · exact ⟨i, by rw [hs]; omega, by rw [hs]; exact .inl hA⟩
        · by_cases hat : s.at_ < (nt xs k2).Upto
          · exact dom_climb hs hsk hk hat hlen c1 (by omega) (by omega)
          · exact ⟨i, by rw [hs]; omega, by rw [hs]; exact .inr ⟨hsk, by omega, .inl (by omega)⟩⟩
/-- No firing without faults is shorter. -/
theorem fast_least {xs : List HeatRule} {ds : List Int} (hok : rulesOk xs = true) (hd : firB ds = true) (h : (ffF xs ds).1 = -1) :
    ∃ few, lfhF xs (nth ds 0) = (few, 0) ∧ few ≤ (ds.length : Int) - 1 := by
  have hl := rulesOk_facts hok
  obtain ⟨hd1, hd2, _⟩ := firB_parts hd
  have hd0 := firB_nth hd (k := 0) (by omega)
  rw [ffF] at h
  split at h
  · exact absurd h (by show ¬ (0 : Int) = -1; omega)
  · rename_i hup
    rw [ffEnd] at h
    cases e : ff xs ds xs.length (ds.length - 1) with
    | stop a s =>
      rw [e] at h
      -- a fault's hour is not below zero
      exact absurd h (by
        show ¬ a = -1
        have hst : ∀ j, ff xs ds xs.length j = .stop a s → 0 ≤ a := by
          intro j
          induction j with
          | zero => intro hj; cases hj
          | succ j ih =>
            intro hj
            rw [ff] at hj
            cases e2 : ff xs ds xs.length j with
            | stop a2 s2 => rw [e2] at hj; simp only at hj; exact ih (by rw [e2]; exact hj)
            | go k held =>
              rw [e2] at hj
              simp only [ffStep, ffCheck] at hj
              repeat' split at hj
              all_goals first | (cases hj; done) | (cases hj; omega)
        have := hst _ e
        omega)
    | go k held =>
      rw [e] at h
      simp only at h
      split at h
      · exact absurd h (by show ¬ (ds.length : Int) = -1; omega)
      · rename_i hgood
        obtain ⟨hk, hle, hh0, hhb, i, hlen, hA⟩ := dom_step hok rfl hd0.1 (by omega) _ _ _ e
        have ek : k = xs.length - 1 := by omega
        have hC : frC xs (nth ds 0) = 0 := by rw [frC, if_pos hok, if_pos (inB_true.2 ⟨hd0.1, by omega⟩)]
        have hend : ∃ i2, xs.length ≤ (fsI xs xs.length (nth ds 0) i2).k ∧ (fsI xs xs.length (nth ds 0) i2).out.length ≤ ds.length := by
          rcases hA with hA | ⟨hsk, hb, hhd⟩
          · exact ⟨i, by omega, by omega⟩
          · have hV := fs_inv hok rfl hd0.1 (show nth ds 0 ≤ (nt xs 0).Upto by omega) i
            have hat := hV.hi (by omega)
            obtain ⟨s, hs⟩ : ∃ s, fsI xs xs.length (nth ds 0) i = s := ⟨_, rfl⟩
            rw [hs] at hlen hsk hb hhd hat
            obtain ⟨k', h', out, a⟩ := s
            simp only at hsk hb hhd hat hlen
            subst hsk
            subst ek
            refine ⟨i + 1, ?_, ?_⟩
            · rw [fs_next hs hk (by omega) (by omega)]; show _ ≤ xs.length - 1 + 1; omega
            · rw [fs_next hs hk (by omega) (by omega)]; show out.length ≤ _; omega
        obtain ⟨i2, hk2, hlen2⟩ := hend
        cases e2 : fsI xs xs.length (nth ds 0) i2 with
        | mk k2 h2 out2 a2 =>
          rw [e2] at hk2 hlen2
          simp only at hk2 hlen2
          have hE := fsEnd_eq e2 hk2
          have hN := fs_notFull e2 hk2 (by omega)
          refine ⟨((fsEnd xs xs.length (nth ds 0)).length : Int) - 1, by rw [lfhF, (ffr_good hC hN).1, if_pos rfl], ?_⟩
          rw [hE]; omega
end Go.Proofs.YtoghgbbepjpelaaGreatDoor
