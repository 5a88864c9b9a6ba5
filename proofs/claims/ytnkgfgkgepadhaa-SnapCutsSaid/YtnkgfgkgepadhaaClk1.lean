/-
  Plain: a clock counts, of each station, the events in the causal past.
-/
import Derived.Test.YtnkgfgkgepadhaaGoodEvs
namespace Go.Proofs.Ytnkgfgkgepadhaa
set_option linter.unusedVariables false
set_option linter.unusedSimpArgs false

theorem getD_app {l : List Ev} {e : Ev} {j : Nat} (h : j < l.length) : (l ++ [e]).getD j dfEv = l.getD j dfEv := by simp [List.getD, List.getElem?_append_left h]
theorem getD_end (l : List Ev) (e : Ev) : (l ++ [e]).getD l.length dfEv = e := by simp [List.getD]
theorem take_app {l : List Ev} {e : Ev} {j : Nat} (h : j ≤ l.length) : (l ++ [e]).take j = l.take j := List.take_append_of_le_length h
theorem take_getD {l : List Ev} {i : Nat} (h : i < l.length) : l.take (i + 1) = l.take i ++ [l.getD i dfEv] := by
  rw [List.take_succ_eq_append_getElem h]; simp [List.getD, h]
/-- The k-th of those that p takes. -/
theorem filter_at {p : Ev → Bool} : ∀ {l : List Ev} {k : Nat} {x : Ev}, (l.filter p)[k]? = some x → ∃ j, j < l.length ∧ l.getD j dfEv = x ∧ p x = true ∧ (l.take j).countP p = k
  | [], k, x, h => by simp at h
  | a :: l, k, x, h => by
    cases hp : p a with
    | false =>
      rw [List.filter_cons_of_neg (by simp [hp])] at h
      obtain ⟨j, h1, h2, h3, h4⟩ := filter_at h
      exact ⟨j + 1, by simp; omega, by simpa using h2, h3, by simp [hp, h4]⟩
    | true =>
      rw [List.filter_cons_of_pos hp] at h
      cases k with
      | zero =>
        simp only [List.getElem?_cons_zero, Option.some.injEq] at h
        subst h
        exact ⟨0, by simp, rfl, hp, rfl⟩
      | succ k =>
        rw [List.getElem?_cons_succ] at h
        obtain ⟨j, h1, h2, h3, h4⟩ := filter_at h
        exact ⟨j + 1, by simp; omega, by simpa using h2, h3, by simp [hp, h4]⟩
theorem pend_head {l : List Ev} {a b : Nat} {x : Ev} {rest : List Ev} (h : pend l a b = x :: rest) : ∃ j, j < l.length ∧ l.getD j dfEv = x ∧ isSend a b x = true ∧ scnt (l.take j) a b = rcnt l a b := by
  have h0 : (l.filter (isSend a b))[rcnt l a b]? = some x := by
    have : ((l.filter (isSend a b)).drop (rcnt l a b))[0]? = some x := by
      show (pend l a b)[0]? = _
      rw [h]; rfl
    rw [List.getElem?_drop] at this
    simpa using this
  exact filter_at h0

/-! ### Event by event -/
/-- What event i is. -/
def EvIs (n : Nat) (l : List Ev) (i k : Nat) : Prop :=
  (((l.getD i dfEv).what = 1 ∨ (l.getD i dfEv).what = 2) ∧ (l.getD i dfEv).clock = tick (lastC n (l.take i) k) k) ∨
  ((l.getD i dfEv).what = 3 ∧ ∃ a j : Nat, a < n ∧ a ≠ k ∧ (l.getD i dfEv).other = a ∧ j < i ∧ isSend a k (l.getD j dfEv) = true ∧ scnt (l.take j) a k = rcnt (l.take i) a k ∧
    (l.getD i dfEv).clock = joined (lastC n (l.take i) k) (l.getD j dfEv).clock k ∧ (l.getD i dfEv).pieces = (l.getD j dfEv).pieces)
theorem EvIs.app {n : Nat} {l : List Ev} {i k : Nat} (e : Ev) (hi : i < l.length) (h : EvIs n l i k) : EvIs n (l ++ [e]) i k := by
  unfold EvIs at h ⊢
  rw [getD_app hi, take_app (by omega)]
  rcases h with h | ⟨h1, a, j, h2, h3, h4, h5, h6, h7, h8, h9⟩
  · exact .inl h
  · exact .inr ⟨h1, a, j, h2, h3, h4, h5, by rw [getD_app (by omega)]; exact h6, by rw [take_app (by omega)]; exact h7, by rw [getD_app (by omega)]; exact h8, by rw [getD_app (by omega)]; exact h9⟩
theorem Good.at {n : Nat} {l : List Ev} (h : Good n l) : ∀ i, i < l.length → ∃ k : Nat, k < n ∧ (l.getD i dfEv).station = k ∧ EvIs n l i k := by
  have key : ∀ (l : List Ev) (e : Ev), (∀ i, i < l.length → ∃ k : Nat, k < n ∧ (l.getD i dfEv).station = k ∧ EvIs n l i k) → (∃ k : Nat, k < n ∧ e.station = k ∧ EvIs n (l ++ [e]) l.length k) →
      ∀ i, i < (l ++ [e]).length → ∃ k : Nat, k < n ∧ ((l ++ [e]).getD i dfEv).station = k ∧ EvIs n (l ++ [e]) i k := fun l e h1 h2 i hi => by
    by_cases h : i < l.length
    · obtain ⟨k, hk, hs, hE⟩ := h1 i h
      exact ⟨k, hk, by rw [getD_app h]; exact hs, hE.app e h⟩
    · have : i = l.length := by simp at hi; omega
      subst this
      obtain ⟨k, hk, hs, hE⟩ := h2
      exact ⟨k, hk, by rw [getD_end]; exact hs, hE⟩
  induction h with
  | nil => intro i hi; simp at hi
  | @work l k p _ hk ih =>
    refine key _ _ ih ⟨k, hk, rfl, .inl ⟨.inl ?_, ?_⟩⟩
    · rw [getD_end]; rfl
    · rw [getD_end, take_app (Nat.le_refl _), List.take_length]; rfl
  | @send l i j p _ hi hj hij ih =>
    refine key _ _ ih ⟨i, hi, rfl, .inl ⟨.inr ?_, ?_⟩⟩
    · rw [getD_end]; rfl
    · rw [getD_end, take_app (Nat.le_refl _), List.take_length]; rfl
  | @recv l i j x rest _ hi hj hij hp ih =>
    obtain ⟨q, hq, hx, hs, hc⟩ := pend_head hp
    refine key _ _ ih ⟨j, hj, rfl, .inr ⟨?_, i, q, hi, hij, ?_, hq, ?_, ?_, ?_, ?_⟩⟩
    · rw [getD_end]; rfl
    · rw [getD_end]; rfl
    · rw [getD_app hq, hx]; exact hs
    · rw [take_app (by omega), take_app (Nat.le_refl _), List.take_length]; exact hc
    · rw [getD_end, take_app (Nat.le_refl _), List.take_length, getD_app hq, hx]; rfl
    · rw [getD_end, getD_app hq, hx]; rfl
/-! ### Lengths -/
theorem joined_len (c m : List Int) (j : Nat) : (joined c m j).length = c.length := by rw [joined, tick_len, mergeTo_len]
theorem Good.lens {n : Nat} {l : List Ev} (h : Good n l) : (∀ e ∈ l, e.clock.length = n) ∧ ∀ k, (lastC n l k).length = n := by
  have key : ∀ (l : List Ev) (e : Ev), ((∀ e ∈ l, e.clock.length = n) ∧ ∀ k, (lastC n l k).length = n) → e.clock.length = n → (∀ x ∈ l ++ [e], x.clock.length = n) ∧ ∀ k, (lastC n (l ++ [e]) k).length = n := fun l e h he => by
    refine ⟨fun x hx => ?_, fun k => ?_⟩
    · rcases List.mem_append.1 hx with hx | hx
      · exact h.1 x hx
      · rw [List.mem_singleton.1 hx]; exact he
    · rw [lastC_snoc]; split
      · exact he
      · exact h.2 k
  induction h with
  | nil => exact ⟨fun e he => by simp at he, fun k => by simp [lastC]⟩
  | @work l k p _ hk ih => exact key _ _ ih (by simp only [evWork]; rw [tick_len]; exact ih.2 k)
  | @send l i j p _ hi hj hij ih => exact key _ _ ih (by simp only [evSend]; rw [tick_len]; exact ih.2 i)
  | @recv l i j x rest _ hi hj hij hp ih => exact key _ _ ih (by simp only [evRecv]; rw [joined_len]; exact ih.2 j)
theorem Good.take {n : Nat} {l : List Ev} (h : Good n l) : ∀ t, Good n (l.take t) := by
  have key : ∀ (l : List Ev) (e : Ev), (∀ t, Good n (l.take t)) → Good n (l ++ [e]) → ∀ t, Good n ((l ++ [e]).take t) := fun l e h1 h2 t => by
    by_cases ht : t ≤ l.length
    · rw [take_app ht]; exact h1 t
    · rw [List.take_of_length_le (by simp; omega)]; exact h2
  induction h with
  | nil => intro t; simp; exact .nil
  | work k p h hk ih => exact key _ _ ih (.work k p h hk)
  | send i j p h hi hj hij ih => exact key _ _ ih (.send i j p h hi hj hij)
  | recv i j x rest h hi hj hij hp ih => exact key _ _ ih (.recv i j x rest h hi hj hij hp)
theorem tick_get {c : List Int} {k s : Nat} (hk : k < c.length) : (tick c k).getD s 0 = if s = k then c.getD k 0 + 1 else c.getD s 0 := by
  unfold tick
  by_cases h : s = k
  · subst h; simp [List.getD, hk]
  · rw [if_neg h]; simp [List.getD, List.getElem?_set_ne (Ne.symm h)]
theorem mergeTo_get {c m : List Int} {j s : Nat} (hs : s < c.length) : ∀ t, (mergeTo c m j t).getD s 0 = if s < t ∧ s ≠ j then max (c.getD s 0) (m.getD s 0) else c.getD s 0
  | 0 => by simp [mergeTo]
  | t + 1 => by
    have ih := mergeTo_get (m := m) (j := j) hs t
    unfold mergeTo
    split
    · rename_i htj
      rw [ih]
      by_cases h1 : s < t ∧ s ≠ j
      · rw [if_pos h1, if_pos ⟨by omega, h1.2⟩]
      · rw [if_neg h1, if_neg (by omega)]
    · rename_i htj
      by_cases hst : s = t
      · subst hst
        rw [if_pos ⟨by omega, htj⟩]
        rw [if_neg (by omega)] at ih
        have hl : s < (mergeTo c m j s).length := by rw [mergeTo_len]; exact hs
        rw [ih]
        simp [List.getD, hl]
      · have : ((mergeTo c m j t).set t (max ((mergeTo c m j t).getD t 0) (m.getD t 0))).getD s 0 = (mergeTo c m j t).getD s 0 := by
          simp [List.getD, List.getElem?_set_ne (fun h => hst h.symm)]
        rw [this, ih]
        by_cases h1 : s < t ∧ s ≠ j
        · rw [if_pos h1, if_pos ⟨by omega, h1.2⟩]
        · rw [if_neg h1, if_neg (by omega)]
theorem joined_get {c m : List Int} {j s : Nat} (hm : m.length = c.length) (hj : j < c.length) (hs : s < c.length) : (joined c m j).getD s 0 = if s = j then c.getD j 0 + 1 else max (c.getD s 0) (m.getD s 0) := by
  unfold joined
  rw [tick_get (by rw [mergeTo_len]; exact hj), mergeTo_get hj, mergeTo_get hs]
  by_cases h : s = j
  · subst h; simp
  · rw [if_neg h, if_neg h, if_pos ⟨by omega, h⟩]

/-! ### Counting -/
def cntS (l : List Ev) (t s : Nat) : Nat := (l.take t).countP fun e => e.station == (s : Int)
theorem cntS_zero (l : List Ev) (s : Nat) : cntS l 0 s = 0 := by simp [cntS]
theorem cntS_succ {l : List Ev} {t : Nat} (h : t < l.length) (s : Nat) : cntS l (t + 1) s = cntS l t s + if (l.getD t dfEv).station = (s : Int) then 1 else 0 := by
  unfold cntS
  rw [take_getD h, List.countP_append]
  by_cases hs : (l.getD t dfEv).station = (s : Int) <;> simp [hs]
theorem cntS_over {l : List Ev} {t : Nat} (h : l.length ≤ t) (s : Nat) : cntS l (t + 1) s = cntS l t s := by
  unfold cntS; rw [List.take_of_length_le h, List.take_of_length_le (by omega)]
theorem cntS_mono {l : List Ev} {t : Nat} (s : Nat) : ∀ d, cntS l t s ≤ cntS l (t + d) s
  | 0 => Nat.le_refl _
  | d + 1 => by
    have := cntS_mono (l := l) (t := t) s d
    by_cases h : t + d < l.length
    · have := cntS_succ h s; rw [show t + (d + 1) = t + d + 1 by omega]; omega
    · have := cntS_over (show l.length ≤ t + d by omega) s; rw [show t + (d + 1) = t + d + 1 by omega]; omega
theorem cntS_le {l : List Ev} {t u : Nat} (h : t ≤ u) (s : Nat) : cntS l t s ≤ cntS l u s := by
  obtain ⟨d, rfl⟩ := Nat.exists_eq_add_of_le h
  exact cntS_mono s d
theorem cntS_flat {l : List Ev} {s t : Nat} : ∀ d, t + d ≤ l.length → (∀ q, t ≤ q → q < t + d → (l.getD q dfEv).station ≠ (s : Int)) → cntS l (t + d) s = cntS l t s
  | 0, _, _ => rfl
  | d + 1, h, hq => by
    rw [show t + (d + 1) = t + d + 1 by omega, cntS_succ (by omega), if_neg (hq (t + d) (by omega) (by omega)), cntS_flat d (by omega) (fun q h1 h2 => hq q h1 (by omega))]; omega
/-- The last event of a station. -/
theorem lastC_cases (n : Nat) (l : List Ev) (k : Nat) : ∀ i, i ≤ l.length → (lastC n (l.take i) k = List.replicate n 0 ∧ ∀ p, p < i → (l.getD p dfEv).station ≠ (k : Int)) ∨
    ∃ p, p < i ∧ (l.getD p dfEv).station = (k : Int) ∧ lastC n (l.take i) k = (l.getD p dfEv).clock ∧ ∀ q, p < q → q < i → (l.getD q dfEv).station ≠ (k : Int)
  | 0, _ => .inl ⟨by simp [lastC], fun p hp => by omega⟩
  | i + 1, hi => by
    rw [take_getD (by omega), lastC_snoc]
    by_cases hs : (l.getD i dfEv).station = (k : Int)
    · rw [if_pos hs]
      exact .inr ⟨i, by omega, hs, rfl, fun q h1 h2 => by omega⟩
    · rw [if_neg hs]
      rcases lastC_cases n l k i (by omega) with ⟨h1, h2⟩ | ⟨p, h1, h2, h3, h4⟩
      · refine .inl ⟨h1, fun p hp => ?_⟩
        by_cases hpi : p = i
        · rw [hpi]; exact hs
        · exact h2 p (by omega)
      · refine .inr ⟨p, by omega, h2, h3, fun q h5 h6 => ?_⟩
        by_cases hqi : q = i
        · rw [hqi]; exact hs
        · exact h4 q h5 (by omega)
def ckN (l : List Ev) (i s : Nat) : Int := (l.getD i dfEv).clock.getD s 0
theorem getD_mem {l : List Ev} {i : Nat} (h : i < l.length) : l.getD i dfEv ∈ l := by simp [List.getD, h]
/-- A clock's number of its own station is the number of its events; of another it is no more than there are. -/
theorem Good.bound {n : Nat} {l : List Ev} (h : Good n l) : ∀ i, i < l.length → (∀ s, s < n → 0 ≤ ckN l i s ∧ ckN l i s ≤ cntS l (i + 1) s) ∧ ∀ k : Nat, (l.getD i dfEv).station = k → ckN l i k = cntS l (i + 1) k := by
  intro i
  induction i using Nat.strongRecOn with
  | _ i ih =>
    intro hi
    obtain ⟨k, hk, hst, hE⟩ := h.at i hi
    have hlen := h.lens
    -- the last clock of the station
    have hlast : (∀ s, s < n → 0 ≤ (lastC n (l.take i) k).getD s 0 ∧ (lastC n (l.take i) k).getD s 0 ≤ cntS l i s) ∧ (lastC n (l.take i) k).getD k 0 = cntS l i k := by
      rcases lastC_cases n l k i (by omega) with ⟨h1, h2⟩ | ⟨p, h1, h2, h3, h4⟩
      · rw [h1]
        have hz : ∀ s, (List.replicate n (0 : Int)).getD s 0 = 0 := fun s => by
          by_cases hs : s < n <;> simp [List.getD, hs]
        refine ⟨fun s hs => by rw [hz]; omega, ?_⟩
        have := cntS_flat (l := l) (s := k) (t := 0) i (by omega) (fun q _ hq => h2 q (by omega))
        rw [Nat.zero_add, cntS_zero] at this
        rw [hz, this]; rfl
      · rw [h3]
        obtain ⟨b1, b2⟩ := ih p h1 (by omega)
        refine ⟨fun s hs => ?_, ?_⟩
        · have := b1 s hs
          have := cntS_le (l := l) (show p + 1 ≤ i by omega) s
          unfold ckN at *
          omega
        · have h5 := b2 k h2
          obtain ⟨d, rfl⟩ := Nat.exists_eq_add_of_le (show p + 1 ≤ i by omega)
          have := cntS_flat (l := l) (s := k) (t := p + 1) d (by omega) (fun q h6 h7 => h4 q (by omega) (by omega))
          rw [this]; exact h5
    have hll : (lastC n (l.take i) k).length = n := (h.take i).lens.2 k
    have hsuc := cntS_succ (l := l) hi
    have hck : ∀ s, s < n → ckN l i s = if s = k then (lastC n (l.take i) k).getD k 0 + 1 else ckN l i s := fun s hs => by
      split
      · rename_i hsk
        subst hsk
        rcases hE with ⟨_, hc⟩ | ⟨_, a, j, _, _, _, _, _, _, hc, _⟩
        · unfold ckN; rw [hc, tick_get (by omega), if_pos rfl]
        · have hjl : (l.getD j dfEv).clock.length = n := hlen.1 _ (getD_mem (by omega))
          unfold ckN; rw [hc, joined_get (by omega) (by omega) (by omega), if_pos rfl]
      · rfl
    have hown : ckN l i k = cntS l (i + 1) k := by
      rw [hck k hk, if_pos rfl, hlast.2, hsuc, if_pos hst]; omega
    refine ⟨fun s hs => ?_, fun k' hk' => ?_⟩
    · by_cases hsk : s = k
      · subst hsk; rw [hown]; omega
      · have hsc : cntS l (i + 1) s = cntS l i s := by rw [hsuc, if_neg (by rw [hst]; omega)]; omega
        rw [hsc]
        have hl1 := hlast.1 s hs
        rcases hE with ⟨_, hc⟩ | ⟨_, a, j, _, _, _, hji, _, _, hc, _⟩
        · have : ckN l i s = (lastC n (l.take i) k).getD s 0 := by unfold ckN; rw [hc, tick_get (by omega), if_neg hsk]
          omega
        · have hjl : (l.getD j dfEv).clock.length = n := hlen.1 _ (getD_mem (by omega))
          have : ckN l i s = max ((lastC n (l.take i) k).getD s 0) (ckN l j s) := by unfold ckN; rw [hc, joined_get (by omega) (by omega) (by omega), if_neg hsk]
          have hj1 := (ih j hji (by omega)).1 s hs
          have := cntS_le (l := l) (show j + 1 ≤ i by omega) s
          omega
    · have : k' = k := by omega
      subst this; exact hown
end Go.Proofs.Ytnkgfgkgepadhaa
