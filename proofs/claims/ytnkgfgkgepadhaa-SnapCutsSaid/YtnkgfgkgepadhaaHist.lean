/-
  The walk of recalled: the history of events. Plain data first.
-/
import Derived.Test.YtnkgfgkgepadhaaMaps
import Derived.Test.YtnkgfgkgepadhaaEff
namespace Go.Proofs.Ytnkgfgkgepadhaa
open Go.RowKit Go.MapKept Go.ChangeMaps
set_option linter.unusedVariables false
set_option linter.unusedSimpArgs false

/-! ### Plain -/
/-- needs: of each station, of each of its events, what must have been done before it; sent: of each channel, the numbers of what was sent and not received. -/
structure Hist where
  needs : List (List (Int × Int))
  sent : List ((Int × Int) × List Int)
def evBad (n : Int) (e : Ev) : Prop := e.station < 0 ∨ n ≤ e.station ∨ e.other < 0 ∨ n ≤ e.other ∨ e.what < 1 ∨ 3 < e.what
instance (n : Int) (e : Ev) : Decidable (evBad n e) := by unfold evBad; infer_instance
def Hist.add (h : Hist) (s : Int) (a : Int × Int) : List (List (Int × Int)) := h.needs.set s.toNat (h.needs.getD s.toNat [] ++ [a])
def Hist.step (n : Int) (h : Hist) (e : Ev) : Option Hist :=
  if evBad n e then none
  else if e.what = 2 then some ⟨h.add e.station (0, 0), sPut h.sent (e.station, e.other) (sGet h.sent (e.station, e.other) ++ [((h.needs.getD e.station.toNat []).length : Int) + 1])⟩
  else if e.what = 3 then
    match sGet h.sent (e.other, e.station) with
    | [] => none
    | x :: q => some ⟨h.add e.station (e.other, x), sPut h.sent (e.other, e.station) q⟩
  else some ⟨h.add e.station (0, 0), h.sent⟩
def Hist.run (n : Int) : Hist → List Ev → Option Hist
  | h, [] => some h
  | h, e :: l => match h.step n e with | none => none | some h' => Hist.run n h' l
def Hist.zero (n : Nat) : Hist := ⟨List.replicate n [], []⟩
theorem Hist.run_snoc (n : Int) : ∀ (l : List Ev) (h : Hist) (e : Ev), Hist.run n h (l ++ [e]) = match Hist.run n h l with | none => none | some h' => h'.step n e
  | [], h, e => by simp only [List.nil_append, Hist.run]; cases h.step n e <;> rfl
  | a :: l, h, e => by
    simp only [List.cons_append, Hist.run]
    cases h.step n a with
    | none => rfl
    | some h' => exact Hist.run_snoc n l h' e
/-- What the walk needs of a history that has come through k events. -/
structure HistOk (n k : Nat) (h : Hist) : Prop where
  len : h.needs.length = n
  row : ∀ r ∈ h.needs, r.length ≤ k ∧ ∀ a ∈ r, 0 ≤ a.1 ∧ a.1 < n ∧ 0 ≤ a.2 ∧ a.2 ≤ k
  sent : ∀ p ∈ h.sent, p.2.length ≤ k ∧ ∀ a ∈ p.2, 0 ≤ a ∧ a ≤ k
  size : h.sent.length ≤ k
theorem sGet_mem : ∀ {s : List ((Int × Int) × List Int)} {q : Int × Int}, sGet s q = [] ∨ (q, sGet s q) ∈ s
  | [], _ => .inl rfl
  | (q', l) :: s, q => by
    unfold sGet
    by_cases h : q' = q
    · rw [if_pos h, h]; exact .inr (by simp)
    · rw [if_neg h]
      rcases sGet_mem (s := s) (q := q) with h' | h'
      · exact .inl h'
      · exact .inr (by simp [h'])
theorem sPut_mem : ∀ {s : List ((Int × Int) × List Int)} {q : Int × Int} {l : List Int} {p : (Int × Int) × List Int}, p ∈ sPut s q l → p ∈ s ∨ p = (q, l)
  | [], q, l, p, h => by simp [sPut] at h; exact .inr h
  | (q', l') :: s, q, l, p, h => by
    unfold sPut at h
    by_cases h' : q' = q
    · rw [if_pos h'] at h
      rcases List.mem_cons.1 h with h | h
      · exact .inr (by rw [h, h'])
      · exact .inl (by simp [h])
    · rw [if_neg h'] at h
      rcases List.mem_cons.1 h with h | h
      · exact .inl (by simp [h])
      · rcases sPut_mem h with h | h
        · exact .inl (by simp [h])
        · exact .inr h
theorem sPut_length : ∀ (s : List ((Int × Int) × List Int)) (q : Int × Int) (l : List Int), (sPut s q l).length ≤ s.length + 1
  | [], _, _ => by simp [sPut]
  | (q', l') :: s, q, l => by
    unfold sPut
    split
    · simp
    · have := sPut_length s q l
      simp only [List.length_cons]; omega
theorem HistOk.zero (n : Nat) : HistOk n 0 (Hist.zero n) := by
  refine ⟨by simp [Hist.zero], fun r hr => ?_, fun p hp => by simp [Hist.zero] at hp, by simp [Hist.zero]⟩
  rw [(List.mem_replicate.1 hr).2]
  exact ⟨by simp, by simp⟩
theorem HistOk.add {n k : Nat} {h : Hist} (ho : HistOk n k h) {s : Int} {a : Int × Int} (ha : 0 ≤ a.1 ∧ a.1 < n ∧ 0 ≤ a.2 ∧ a.2 ≤ k) : (h.add s a).length = n ∧ ∀ r ∈ h.add s a, r.length ≤ k + 1 ∧ ∀ a ∈ r, 0 ≤ a.1 ∧ a.1 < n ∧ 0 ≤ a.2 ∧ a.2 ≤ k + 1 := by
  unfold Hist.add
  refine ⟨by rw [List.length_set]; exact ho.len, fun r hr => ?_⟩
  rcases List.mem_or_eq_of_mem_set hr with hr | rfl
  · obtain ⟨h1, h2⟩ := ho.row r hr
    exact ⟨by omega, fun b hb => by obtain ⟨x1, x2, x3, x4⟩ := h2 b hb; exact ⟨x1, x2, x3, by omega⟩⟩
  · have hrow : (h.needs.getD s.toNat []).length ≤ k ∧ ∀ b ∈ h.needs.getD s.toNat [], 0 ≤ b.1 ∧ b.1 < n ∧ 0 ≤ b.2 ∧ b.2 ≤ k := by
      by_cases hl : s.toNat < h.needs.length
      · have : h.needs.getD s.toNat [] ∈ h.needs := by simp [List.getD, List.getElem?_eq_getElem hl]
        exact ho.row _ this
      · rw [getD_of_ge _ _ _ (by omega)]; exact ⟨by simp, by simp⟩
    refine ⟨by rw [List.length_append, List.length_singleton]; have := hrow.1; omega, fun b hb => ?_⟩
    rcases List.mem_append.1 hb with hb | hb
    · obtain ⟨x1, x2, x3, x4⟩ := hrow.2 b hb; exact ⟨x1, x2, x3, by omega⟩
    · simp only [List.mem_singleton] at hb
      subst hb; exact ⟨ha.1, ha.2.1, ha.2.2.1, by omega⟩
theorem HistOk.put {n k : Nat} {h : Hist} (ho : HistOk n k h) {q : Int × Int} {l : List Int} (hl : l.length ≤ k + 1 ∧ ∀ a ∈ l, 0 ≤ a ∧ a ≤ k + 1) : (∀ p ∈ sPut h.sent q l, p.2.length ≤ k + 1 ∧ ∀ a ∈ p.2, 0 ≤ a ∧ a ≤ (k : Int) + 1) ∧ (sPut h.sent q l).length ≤ k + 1 := by
  refine ⟨fun p hp => ?_, by have := sPut_length h.sent q l; have := ho.size; omega⟩
  rcases sPut_mem hp with hp | rfl
  · obtain ⟨h1, h2⟩ := ho.sent p hp
    exact ⟨by omega, fun a ha => by have := h2 a ha; omega⟩
  · exact hl
theorem HistOk.get {n k : Nat} {h : Hist} (ho : HistOk n k h) (q : Int × Int) : (sGet h.sent q).length ≤ k ∧ ∀ a ∈ sGet h.sent q, 0 ≤ a ∧ a ≤ k := by
  rcases sGet_mem (s := h.sent) (q := q) with h' | h'
  · rw [h']; simp
  · exact ho.sent _ h'
theorem HistOk.step {n k : Nat} {h h' : Hist} (ho : HistOk n k h) (n0 : 0 < n) {e : Ev} (hs : h.step n e = some h') : HistOk n (k + 1) h' := by
  have hk : (k : Int) + 1 = ((k + 1 : Nat) : Int) := by omega
  unfold Hist.step at hs
  split at hs
  · cases hs
  · rename_i hb
    unfold evBad at hb
    split at hs
    · injection hs with hs; subst hs
      obtain ⟨a1, a2⟩ := ho.add (s := e.station) (a := (0, 0)) ⟨by simp, by simp; omega, by simp, by simp⟩
      obtain ⟨g1, g2⟩ := ho.get (e.station, e.other)
      have hr : (h.needs.getD e.station.toNat []).length ≤ k := by
        by_cases hl : e.station.toNat < h.needs.length
        · have : h.needs.getD e.station.toNat [] ∈ h.needs := by simp [List.getD, List.getElem?_eq_getElem hl]
          exact (ho.row _ this).1
        · rw [getD_of_ge _ _ _ (by omega)]; simp
      obtain ⟨p1, p2⟩ := ho.put (q := (e.station, e.other)) (l := sGet h.sent (e.station, e.other) ++ [((h.needs.getD e.station.toNat []).length : Int) + 1]) ⟨by simp; exact g1, fun a ha => by
        rcases List.mem_append.1 ha with ha | ha
        · have := g2 a ha; omega
        · simp only [List.mem_singleton] at ha; omega⟩
      exact ⟨a1, fun r hr => by rw [← hk]; exact a2 r hr, fun p hp => by rw [← hk]; exact p1 p hp, p2⟩
    · split at hs
      · split at hs
        · cases hs
        · rename_i x q hq
          injection hs with hs; subst hs
          obtain ⟨g1, g2⟩ := ho.get (e.other, e.station)
          rw [hq] at g1 g2
          have hx := g2 x (by simp)
          obtain ⟨a1, a2⟩ := ho.add (s := e.station) (a := (e.other, x)) ⟨by simp only; omega, by simp only; omega, hx.1, hx.2⟩
          obtain ⟨p1, p2⟩ := ho.put (q := (e.other, e.station)) (l := q) ⟨by simp at g1; omega, fun a ha => by have := g2 a (by simp [ha]); omega⟩
          exact ⟨a1, fun r hr => by rw [← hk]; exact a2 r hr, fun p hp => by rw [← hk]; exact p1 p hp, p2⟩
      · injection hs with hs; subst hs
        obtain ⟨a1, a2⟩ := ho.add (s := e.station) (a := (0, 0)) ⟨by simp, by simp; omega, by simp, by simp⟩
        exact ⟨a1, fun r hr => by rw [← hk]; exact a2 r hr, fun p hp => by obtain ⟨x1, x2⟩ := ho.sent p hp; exact ⟨by omega, fun a ha => by have := x2 a ha; omega⟩, by show h.sent.length ≤ k + 1; have := ho.size; omega⟩
end Go.Proofs.Ytnkgfgkgepadhaa
