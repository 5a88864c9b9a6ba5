/-
  Plain: the places that are reached step by step; there are more of them than events.
-/
import Derived.Test.YtnkgfgkgepadhaaClk3
namespace Go.Proofs.Ytnkgfgkgepadhaa
set_option linter.unusedVariables false
set_option linter.unusedSimpArgs false

/-- One more at s. -/
def bump (x : List Int) (s : Nat) : List Int := x.set s (x.getD s 0 + 1)
def needAt (needs : List (List (Int × Int))) (x : List Int) (s : Nat) : Int × Int := (needs.getD s []).getD (x.getD s 0).toNat (0, 0)
/-- May place x go on at s? -/
def mayGo (needs : List (List (Int × Int))) (x : List Int) (s : Nat) : Bool :=
  decide (x.getD s 0 + 1 ≤ (needs.getD s []).length) && decide ((needAt needs x s).2 ≤ (bump x s).getD (needAt needs x s).1.toNat 0)
def place0 : List Int := [0, 0, 0, 0, 0]
inductive Reach (n : Nat) (needs : List (List (Int × Int))) : List Int → Prop
  | zero : Reach n needs place0
  | step {x : List Int} {s : Nat} : Reach n needs x → s < n → mayGo needs x s = true → Reach n needs (bump x s)
theorem Reach.len {n : Nat} {needs : List (List (Int × Int))} {x : List Int} (h : Reach n needs x) : x.length = 5 := by
  induction h with
  | zero => rfl
  | step _ _ _ ih => simp [bump, ih]
theorem bump_get {x : List Int} {s : Nat} (hs : s < x.length) (t : Nat) : (bump x s).getD t 0 = if t = s then x.getD s 0 + 1 else x.getD t 0 := by
  unfold bump
  rw [getD_set]
  by_cases h : t = s
  · subst h; rw [if_pos ⟨rfl, hs⟩, if_pos rfl]
  · rw [if_neg (by omega), if_neg h]
/-- A place that is reached: no count below 0, or above what there is. -/
theorem Reach.bound {n : Nat} {needs : List (List (Int × Int))} {x : List Int} (n5 : n ≤ 5) (h : Reach n needs x) : ∀ s, 0 ≤ x.getD s 0 ∧ (x.getD s 0 ≤ (needs.getD s []).length) := by
  induction h with
  | zero =>
    intro s
    have : place0.getD s 0 = 0 := by
      unfold place0
      match s with
      | 0 => rfl
      | 1 => rfl
      | 2 => rfl
      | 3 => rfl
      | 4 => rfl
      | s + 5 => rfl
    rw [this]; omega
  | @step x s hx hs hm ih =>
    intro t
    rw [bump_get (by rw [hx.len]; omega)]
    split
    · rename_i h; subst h
      simp only [mayGo, Bool.and_eq_true, decide_eq_true_eq] at hm
      have := ih t; omega
    · exact ih t
/-- What has been seen: S; the first p of them have been looked at. -/
structure BfsInv (n : Nat) (needs : List (List (Int × Int))) (S : List (List Int)) (p : Nat) : Prop where
  zero : place0 ∈ S
  nodup : S.Nodup
  reach : ∀ x ∈ S, Reach n needs x
  closed : ∀ i, i < p → ∀ s, s < n → mayGo needs (S.getD i []) s = true → bump (S.getD i []) s ∈ S
theorem BfsInv.start (n : Nat) (needs : List (List (Int × Int))) : BfsInv n needs [place0] 0 :=
  ⟨by simp, by simp, fun x hx => by rw [List.mem_singleton.1 hx]; exact .zero, fun i hi => by omega⟩
/-- The steps below s of the place p have been done. -/
structure BfsMid (n : Nat) (needs : List (List (Int × Int))) (S : List (List Int)) (p s : Nat) : Prop where
  inv : BfsInv n needs S p
  lt : p < S.length
  mid : ∀ t, t < s → mayGo needs (S.getD p []) t = true → bump (S.getD p []) t ∈ S
theorem BfsMid.start {n : Nat} {needs : List (List (Int × Int))} {S : List (List Int)} {p : Nat} (h : BfsInv n needs S p) (hp : p < S.length) : BfsMid n needs S p 0 := ⟨h, hp, fun t ht => by omega⟩
theorem BfsMid.skip {n : Nat} {needs : List (List (Int × Int))} {S : List (List Int)} {p s : Nat} (h : BfsMid n needs S p s) (hs : mayGo needs (S.getD p []) s = true → bump (S.getD p []) s ∈ S) : BfsMid n needs S p (s + 1) :=
  ⟨h.inv, h.lt, fun t ht hm => by
    by_cases e : t = s
    · subst e; exact hs hm
    · exact h.mid t (by omega) hm⟩
theorem BfsMid.add {n : Nat} {needs : List (List (Int × Int))} {S : List (List Int)} {p s : Nat} (h : BfsMid n needs S p s) (hs : s < n) (hm : mayGo needs (S.getD p []) s = true) (hno : ¬ bump (S.getD p []) s ∈ S) : BfsMid n needs (S ++ [bump (S.getD p []) s]) p (s + 1) := by
  have hg : ∀ i, i < S.length → (S ++ [bump (S.getD p []) s]).getD i [] = S.getD i [] := fun i hi => by simp [List.getD, List.getElem?_append_left hi]
  have hmem : S.getD p [] ∈ S := by simp [List.getD, h.lt]
  refine ⟨⟨by simp [h.inv.zero], List.nodup_append.2 ⟨h.inv.nodup, by simp, fun a ha b hb e => hno (by rw [List.mem_singleton.1 hb] at e; rw [← e]; exact ha)⟩, fun x hx => ?_, fun i hi t ht hmt => ?_⟩, by simp; have := h.lt; omega, fun t ht hmt => ?_⟩
  · rcases List.mem_append.1 hx with hx | hx
    · exact h.inv.reach x hx
    · rw [List.mem_singleton.1 hx]; exact .step (h.inv.reach _ hmem) hs hm
  · rw [hg i (by have := h.lt; omega)] at hmt ⊢
    exact List.mem_append_left _ (h.inv.closed i hi t ht hmt)
  · rw [hg p h.lt] at hmt ⊢
    by_cases e : t = s
    · subst e; simp
    · exact List.mem_append_left _ (h.mid t (by omega) hmt)
theorem BfsMid.done {n : Nat} {needs : List (List (Int × Int))} {S : List (List Int)} {p : Nat} (h : BfsMid n needs S p n) : BfsInv n needs S (p + 1) :=
  ⟨h.inv.zero, h.inv.nodup, h.inv.reach, fun i hi s hs hm => by
    by_cases e : i = p
    · subst e; exact h.mid s hs hm
    · exact h.inv.closed i (by omega) s hs hm⟩
/-- All is reached. -/
theorem BfsInv.all {n : Nat} {needs : List (List (Int × Int))} {S : List (List Int)} (h : BfsInv n needs S S.length) {x : List Int} (hx : Reach n needs x) : x ∈ S := by
  induction hx with
  | zero => exact h.zero
  | @step x s _ hs hm ih =>
    obtain ⟨i, hi⟩ := List.getElem?_of_mem ih
    have hl := (List.getElem?_eq_some_iff.1 hi).1
    have hg : S.getD i [] = x := by simp [List.getD, hi]
    have := h.closed i hl s hs (by rw [hg]; exact hm)
    rwa [hg] at this
theorem length_le_of_subset {α : Type} [DecidableEq α] : ∀ {A B : List α}, A.Nodup → (∀ x ∈ A, x ∈ B) → A.length ≤ B.length
  | [], B, _, _ => by simp
  | a :: A, B, hn, hs => by
    have ha := hs a (by simp)
    have h1 := length_le_of_subset (A := A) (B := B.erase a) (List.nodup_cons.1 hn).2 fun x hx => by
      have hne : x ≠ a := fun e => (List.nodup_cons.1 hn).1 (by rw [← e]; exact hx)
      exact (List.mem_erase_of_ne hne).2 (hs x (by simp [hx]))
    rw [List.length_erase_of_mem ha] at h1
    have : 0 < B.length := List.length_pos_of_mem ha
    simp only [List.length_cons]; omega
/-! ### The first t events -/
def upTo (n : Nat) (l : List Ev) (t : Nat) : List Int := (List.range 5).map fun s => if s < n then (cntS l t s : Int) else 0
theorem upTo_get {n : Nat} {l : List Ev} {t s : Nat} (n5 : n ≤ 5) (hs : s < n) : (upTo n l t).getD s 0 = cntS l t s := by
  have h5 : s < 5 := by omega
  simp [upTo, List.getD, h5, hs]
theorem upTo_zero (n : Nat) (l : List Ev) : upTo n l 0 = place0 := by
  simp [upTo, place0, cntS_zero, List.range_succ]
theorem upTo_succ {n : Nat} {l : List Ev} {t k : Nat} (n5 : n ≤ 5) (ht : t < l.length) (hk : k < n) (hs : (l.getD t dfEv).station = (k : Int)) : upTo n l (t + 1) = bump (upTo n l t) k := by
  have h5 : k < 5 := by omega
  have e : bump (upTo n l t) k = (upTo n l t).set k ((cntS l t k : Int) + 1) := by unfold bump; rw [upTo_get n5 hk]
  rw [e]
  apply List.ext_getElem
  · simp [upTo]
  · intro i h1 h2
    have hi : i < 5 := by simpa [upTo] using h1
    simp only [upTo, List.getElem_set, List.getElem_map, List.getElem_range]
    by_cases e : k = i
    · subst e
      rw [if_pos rfl, if_pos hk, cntS_succ ht, if_pos hs]; omega
    · have h3 : cntS l (t + 1) i = cntS l t i := by rw [cntS_succ ht, if_neg (by rw [hs]; omega)]; rfl
      rw [if_neg e, h3]
theorem Good.reached {n : Nat} {l : List Ev} (hg : Good n l) (n5 : n ≤ 5) {h : Hist} (hv : HistEv n l h) : ∀ t, t ≤ l.length → Reach n h.needs (upTo n l t)
  | 0, _ => by rw [upTo_zero]; exact .zero
  | t + 1, ht => by
    obtain ⟨k, hk, hs, hE⟩ := hg.at t (by omega)
    rw [upTo_succ n5 (by omega) hk hs]
    refine .step (hg.reached n5 hv t (by omega)) hk ?_
    obtain ⟨x, hx1, hx2⟩ := hv.need t k (by omega) hs
    have hrow := hv.row k hk
    have hlt := (List.getElem?_eq_some_iff.1 hx1).1
    have hul : (upTo n l t).length = 5 := by simp [upTo]
    have hneed : needAt h.needs (upTo n l t) k = x := by
      unfold needAt
      rw [upTo_get n5 hk, Int.toNat_natCast]
      simp [List.getD] at hx1 ⊢
      rw [hx1]; rfl
    unfold mayGo
    rw [hneed, upTo_get n5 hk]
    simp only [Bool.and_eq_true, decide_eq_true_eq]
    refine ⟨by omega, ?_⟩
    rcases hx2 with ⟨_, rfl⟩ | ⟨hw, a, j, ho, hj, h7, h8, rfl⟩
    · rw [bump_get (by omega)]
      split
      · rw [upTo_get n5 hk]; simp only; omega
      · simp only [Int.toNat_zero]; rw [upTo_get n5 (by omega)]; omega
    · obtain ⟨a2, ha2, hsa, _⟩ := hg.at j (by omega)
      have hda : (l.getD j dfEv).station = (a : Int) := by
        simp only [isSend, Bool.and_eq_true, beq_iff_eq] at h7
        exact h7.2.1
      have : a2 = a := by omega
      subst this
      have h1 := (hg.bound j (by omega)).2 a2 hda
      have h2 := cntS_le (l := l) (show j + 1 ≤ t by omega) a2
      simp only [Int.toNat_natCast]
      rw [bump_get (by omega)]
      split
      · rename_i e; subst e; rw [upTo_get n5 hk]; omega
      · rw [upTo_get n5 ha2]; omega
theorem Good.many {n : Nat} {l : List Ev} (hg : Good n l) (n5 : n ≤ 5) {h : Hist} (hv : HistEv n l h) {S : List (List Int)} (hS : BfsInv n h.needs S S.length) : l.length + 1 ≤ S.length := by
  have hd : ∀ t u, t < u → u ≤ l.length → upTo n l t ≠ upTo n l u := fun t u htu hu e => by
    obtain ⟨k, hk, hs, _⟩ := hg.at t (by omega)
    have h1 := cntS_own (l := l) (m := t) (by omega) hs
    have h2 := cntS_le (l := l) (show t + 1 ≤ u by omega) k
    have h3 : (upTo n l t).getD k 0 = (upTo n l u).getD k 0 := by rw [e]
    rw [upTo_get n5 hk, upTo_get n5 hk] at h3
    omega
  have hn : ((List.range (l.length + 1)).map (upTo n l)).Nodup := by
    rw [List.nodup_iff_pairwise_ne, List.pairwise_map]
    refine List.Pairwise.imp_of_mem ?_ (List.pairwise_lt_range)
    intro a b ha hb hab
    exact hd a b hab (by have := List.mem_range.1 hb; omega)
  have := length_le_of_subset hn (B := S) fun x hx => by
    obtain ⟨t, ht, rfl⟩ := List.mem_map.1 hx
    exact hS.all (hg.reached n5 hv t (by have := List.mem_range.1 ht; omega))
  simpa using this
/-! ### Lesser and greater counts -/
theorem cutOk_iff {n : Nat} {needs : List (List (Int × Int))} (hl : needs.length = n) (cut : List Int) : cutOk needs cut = true ↔ ∀ s, s < n → 0 ≤ cut.getD s 0 ∧ cut.getD s 0 ≤ (needs.getD s []).length ∧ ∀ o : Nat, (o : Int) < cut.getD s 0 → ∀ x, (needs.getD s [])[o]? = some x → x.2 ≤ cut.getD x.1.toNat 0 := by
  unfold cutOk cutRow
  simp only [List.all_eq_true, List.mem_range, Bool.and_eq_true, decide_eq_true_eq, hl]
  refine forall_congr' fun s => forall_congr' fun hs => and_congr_right fun h0 => and_congr_right fun h1 => ?_
  constructor
  · intro h o ho x hx
    exact h x (List.mem_of_getElem? (i := o) (by rw [List.getElem?_take_of_lt (by omega)]; exact hx))
  · intro h x hx
    obtain ⟨o, ho⟩ := List.getElem?_of_mem hx
    have hol := (List.getElem?_eq_some_iff.1 ho).1
    rw [List.length_take] at hol
    rw [List.getElem?_take_of_lt (by omega)] at ho
    exact h o (by omega) x ho
theorem cut_min {n : Nat} {needs : List (List (Int × Int))} (hl : needs.length = n) (hr : ∀ r ∈ needs, ∀ x ∈ r, 0 ≤ x.1 ∧ x.1 < n) {a b low : List Int} (ha : cutOk needs a = true) (hb : cutOk needs b = true) (h : ∀ s, s < n → low.getD s 0 = min (a.getD s 0) (b.getD s 0)) : cutOk needs low = true := by
  rw [cutOk_iff hl] at *
  intro s hs
  obtain ⟨a0, a1, a2⟩ := ha s hs
  obtain ⟨b0, b1, b2⟩ := hb s hs
  rw [h s hs]
  refine ⟨by omega, by omega, fun o ho x hx => ?_⟩
  have hm : needs.getD s [] ∈ needs := by simp [List.getD, show s < needs.length by omega]
  have hx' := hr _ hm x (List.mem_of_getElem? hx)
  have h1 := a2 o (by omega) x hx
  have h2 := b2 o (by omega) x hx
  rw [h _ (by omega)]
  omega
theorem cut_max {n : Nat} {needs : List (List (Int × Int))} (hl : needs.length = n) (hr : ∀ r ∈ needs, ∀ x ∈ r, 0 ≤ x.1 ∧ x.1 < n) {a b high : List Int} (ha : cutOk needs a = true) (hb : cutOk needs b = true) (h : ∀ s, s < n → high.getD s 0 = max (a.getD s 0) (b.getD s 0)) : cutOk needs high = true := by
  rw [cutOk_iff hl] at *
  intro s hs
  obtain ⟨a0, a1, a2⟩ := ha s hs
  obtain ⟨b0, b1, b2⟩ := hb s hs
  rw [h s hs]
  refine ⟨by omega, by omega, fun o ho x hx => ?_⟩
  have hm : needs.getD s [] ∈ needs := by simp [List.getD, show s < needs.length by omega]
  have hx' := hr _ hm x (List.mem_of_getElem? hx)
  rw [h _ (by omega)]
  rcases (show (o : Int) < a.getD s 0 ∨ (o : Int) < b.getD s 0 by omega) with h1 | h1
  · have := a2 o h1 x hx; omega
  · have := b2 o h1 x hx; omega
end Go.Proofs.Ytnkgfgkgepadhaa
