/-
  Plain: every call keeps a net in order.
-/
import Derived.Test.YtnkgfgkgepadhaaWalk14
namespace Go.Proofs.Ytnkgfgkgepadhaa
set_option linter.unusedVariables false
set_option linter.unusedSimpArgs false

theorem NetOk.step {σ : Net} (h : NetOk σ) (he : σ.evs.length < 400) (k : Nat) (s' : Sta) (e : Ev)
    (hs : s'.clock.length = σ.sta.length ∧ 0 ≤ s'.pieces ∧ s'.pieces ≤ 1000000 + 1000000 * (σ.evs.length + 1) ∧ 0 ≤ s'.events ∧ s'.events ≤ σ.evs.length + 1 ∧ ∀ t ∈ s'.clock, 0 ≤ t ∧ t ≤ σ.evs.length + 1) :
    NetOk { σ with sta := σ.sta.set k s', evs := σ.evs ++ [e] } := by
  refine ⟨by simpa using h.n2, by simpa using h.n5, by simpa using h.rows, by simpa using h.cols, by simp; omega, h.shots, ?_, ?_, ?_, ?_⟩
  · intro s hs1
    simp only [List.length_set, List.length_append, List.length_singleton]
    rcases List.mem_or_eq_of_mem_set hs1 with h1 | rfl
    · obtain ⟨a1, a2, a3, a4, a5, a6⟩ := h.sta s h1
      exact ⟨a1, a2, by omega, a4, by omega, fun t ht => by have := a6 t ht; omega⟩
    · obtain ⟨a1, a2, a3, a4, a5, a6⟩ := hs
      exact ⟨a1, a2, by omega, a4, by omega, fun t ht => by have := a6 t ht; omega⟩
  · intro i r l hr hl
    have := h.line i r l hr hl
    simp only [List.length_append, List.length_singleton]
    omega
  · intro r hr l hl x hx
    simp only [List.length_set, List.length_append, List.length_singleton]
    rcases h.msg r hr l hl x hx with ⟨a1, a2, a3, a4⟩ | a
    · exact .inl ⟨a1, a2, a3, fun t ht => by have := a4 t ht; omega⟩
    · exact .inr a
  · intro x hx
    simp only [List.length_set, List.length_append, List.length_singleton]
    obtain ⟨a1, a2, a3, a4, a5, a6, a7⟩ := h.shot x hx
    exact ⟨a1, a2, a3, a4, a5, a6, fun r hr => ⟨(a7 r hr).1, fun l hl => by have := (a7 r hr).2 l hl; omega⟩⟩

theorem Net.gain_did {σ : Net} {k : Nat} {s : Sta} (hs : σ.sta[k]? = some s) (d what other p : Int) :
    (σ.gain k d).did k what other p = { σ with sta := σ.sta.set k ⟨s.pieces + d, s.events + 1, s.clock.set k (s.clock.getD k 0 + 1)⟩, evs := σ.evs ++ [⟨k, what, other, p, s.clock.set k (s.clock.getD k 0 + 1)⟩] } := by
  obtain ⟨hk, rfl⟩ := List.getElem?_eq_some_iff.1 hs
  simp [Net.gain, Net.did, hk]
theorem Net.take3 {σ : Net} {k : Nat} {s : Sta} (hs : σ.sta[k]? = some s) (d : Int) (m : List Int) (what other p : Int) :
    ((σ.gain k d).merge k m).did k what other p = { σ with sta := σ.sta.set k ⟨s.pieces + d, s.events + 1, (mergeTo s.clock m k m.length).set k ((mergeTo s.clock m k m.length).getD k 0 + 1)⟩, evs := σ.evs ++ [⟨k, what, other, p, (mergeTo s.clock m k m.length).set k ((mergeTo s.clock m k m.length).getD k 0 + 1)⟩] } := by
  obtain ⟨hk, rfl⟩ := List.getElem?_eq_some_iff.1 hs
  simp [Net.gain, Net.merge, Net.did, hk]
theorem clock_up {c : List Int} {k : Nat} {B : Int} (hB : 0 ≤ B) (h : ∀ t ∈ c, 0 ≤ t ∧ t ≤ B) : ∀ t ∈ c.set k (c.getD k 0 + 1), 0 ≤ t ∧ t ≤ B + 1 := by
  intro t ht
  rcases List.mem_or_eq_of_mem_set ht with h1 | rfl
  · have := h t h1; omega
  · have := getD_bound h hB k; omega

theorem NetOk.workD {σ : Net} (h : NetOk σ) (he : σ.evs.length < 400) {k : Nat} {s : Sta} (hs : σ.sta[k]? = some s) (d what other p : Int) (h0 : 0 ≤ s.pieces + d) (h1 : d ≤ 1000000) : NetOk ((σ.gain k d).did k what other p) := by
  rw [Net.gain_did hs]
  obtain ⟨a1, a2, a3, a4, a5, a6⟩ := h.sta s (List.mem_of_getElem? hs)
  refine h.step he k _ _ ⟨by simpa using a1, h0, by simp only; omega, by simp only; omega, by simp only; omega, clock_up (by omega) a6⟩

/-- A message more, where there is room. -/
theorem NetOk.push {σ : Net} (h : NetOk σ) (i j : Nat) (x : Msg) (hroom : ∀ r l, σ.chan[i]? = some r → r[j]? = some l → l.length < σ.evs.length + σ.shots.countP fun x => x.recorded.getD i false)
    (hx : (0 < x.told ∧ x.told ≤ 1000000 ∧ x.clock.length = σ.sta.length ∧ ∀ t ∈ x.clock, 0 ≤ t ∧ t ≤ σ.evs.length) ∨ (x.told < 0 ∧ -x.told ≤ σ.shots.length ∧ x.clock = [])) : NetOk (σ.push i j x) := by
  unfold Net.push
  split
  case h_2 => exact h
  case h_1 r hr =>
    have hr' := List.mem_of_getElem? hr
    by_cases hj : j < r.length
    case neg =>
      obtain ⟨hi, rfl⟩ := List.getElem?_eq_some_iff.1 hr
      have e : σ.chan[i].set j (σ.chan[i].getD j [] ++ [x]) = σ.chan[i] := List.set_eq_of_length_le (by omega)
      rw [e, List.set_getElem_self]
      exact h
    case pos =>
    have hsub : ∀ l ∈ r.set j (r.getD j [] ++ [x]), l ∈ r ∨ l = r[j] ++ [x] := by
      intro l hl
      rcases List.mem_or_eq_of_mem_set hl with h' | h'
      · exact .inl h'
      · exact .inr (by rw [h']; simp [hj])
    refine ⟨h.n2, h.n5, by simpa using h.rows, ?_, h.evs, h.shots, h.sta, ?_, ?_, h.shot⟩
    · intro q hq
      rcases List.mem_or_eq_of_mem_set hq with h' | rfl
      · exact h.cols q h'
      · rw [List.length_set]; exact h.cols r hr'
    · intro k q l hq hl
      by_cases hik : i = k
      · subst hik
        rw [List.getElem?_set_self (List.getElem?_eq_some_iff.1 hr).1] at hq
        injection hq with hq
        subst hq
        rcases hsub l hl with h' | rfl
        · exact h.line i r l hr h'
        · have := hroom r r[j] hr (List.getElem?_eq_getElem hj)
          simp only [List.length_append, List.length_singleton]
          omega
      · rw [List.getElem?_set_ne hik] at hq
        exact h.line k q l hq hl
    · intro q hq l hl y hy
      rcases List.mem_or_eq_of_mem_set hq with h' | rfl
      · exact h.msg q h' l hl y hy
      · rcases hsub l hl with h' | rfl
        · exact h.msg r hr' l h' y hy
        · rcases List.mem_append.1 hy with hy | hy
          · exact h.msg r hr' _ (List.getElem_mem hj) y hy
          · obtain rfl : y = x := by simpa using hy
            exact hx

theorem NetOk.mark {σ : Net} (h : NetOk σ) (k : Nat) (no : Int) (hno : 1 ≤ no ∧ no ≤ σ.shots.length) (hroom : ∀ r l, σ.chan[k]? = some r → l ∈ r → l.length < σ.evs.length + σ.shots.countP fun x => x.recorded.getD k false) :
    ∀ t, t ≤ σ.sta.length → NetOk (σ.mark k no t)
  | 0, _ => h
  | t + 1, ht => by
    unfold Net.mark
    have ih := NetOk.mark h k no hno hroom t (by omega)
    split
    · exact ih
    · obtain ⟨k1, k2, k3, k4⟩ := Net.mark_keeps σ k no t
      refine ih.push k t _ ?_ ?_
      · intro r l hr hl
        rw [k2, k3]
        obtain ⟨r0, hr0⟩ : ∃ r0, σ.chan[k]? = some r0 := ⟨_, List.getElem?_eq_getElem (by rw [← k4]; exact (List.getElem?_eq_some_iff.1 hr).1)⟩
        have hrl := h.cols r0 (List.mem_of_getElem? hr0)
        obtain ⟨r', h1, h2, h3⟩ := Net.mark_row σ k no hr0 t (by omega)
        rw [hr] at h1
        injection h1 with h1
        subst h1
        rw [h3 t (Nat.le_refl _)] at hl
        exact hroom r0 l hr0 (List.mem_of_getElem? hl)
      · rw [k2]
        exact .inr ⟨by simp only; omega, by simp only; omega, rfl⟩

theorem countP_set_more {l : List Shot} {i : Nat} {x : Shot} (p : Shot → Bool) (hx : l[i]? = some x) (x' : Shot) (h1 : p x = false) (h2 : p x' = true) : (l.set i x').countP p = l.countP p + 1 := by
  obtain ⟨hi, rfl⟩ := List.getElem?_eq_some_iff.1 hx
  rw [List.countP_set hi]
  simp [h1, h2]
theorem countP_set_same {l : List Shot} {i : Nat} {x : Shot} (p : Shot → Bool) (hx : l[i]? = some x) (x' : Shot) (h1 : p x' = p x) : (l.set i x').countP p = l.countP p := by
  obtain ⟨hi, rfl⟩ := List.getElem?_eq_some_iff.1 hx
  rw [List.countP_set hi]
  cases h : p l[i] with
  | false => simp [h1, h]
  | true =>
    have : 0 < l.countP p := List.countP_pos_iff.2 ⟨_, List.getElem_mem hi, h⟩
    simp [h1, h]; omega
theorem countP_set_le {l : List Shot} {i : Nat} {x : Shot} (p : Shot → Bool) (hx : l[i]? = some x) (x' : Shot) (h1 : p x = true → p x' = true) : l.countP p ≤ (l.set i x').countP p := by
  cases h : p x with
  | true => rw [countP_set_same p hx x' (by rw [h, h1 h])]; exact Nat.le_refl _
  | false =>
    cases h' : p x' with
    | true => rw [countP_set_more p hx x' h h']; omega
    | false => rw [countP_set_same p hx x' (by rw [h, h'])]; exact Nat.le_refl _

/-- A snapshot turns, its sizes stay. -/
theorem NetOk.shotSet {σ : Net} (h : NetOk σ) {i : Nat} {x x' : Shot} (hx : σ.shots[i]? = some x) (hr : ∀ k, x.recorded.getD k false = true → x'.recorded.getD k false = true)
    (hs : x'.recorded.length = σ.sta.length ∧ x'.closed.length = σ.sta.length ∧ (∀ r ∈ x'.closed, r.length = σ.sta.length) ∧ x'.cut.length = σ.sta.length ∧ x'.pieces.length = σ.sta.length ∧
    x'.under.length = σ.sta.length ∧ (∀ r ∈ x'.under, r.length = σ.sta.length ∧ ∀ l ∈ r, l.length ≤ σ.evs.length)) : NetOk { σ with shots := σ.shots.set i x' } := by
  refine ⟨h.n2, h.n5, h.rows, h.cols, h.evs, by simpa using h.shots, h.sta, ?_, ?_, ?_⟩
  · intro k r l hr' hl
    have := h.line k r l hr' hl
    have := countP_set_le (fun x => x.recorded.getD k false) hx x' (hr k)
    simp only at this ⊢
    omega
  · intro r hr l hl y hy
    rcases h.msg r hr l hl y hy with a | a
    · exact .inl a
    · exact .inr (by simpa using a)
  · intro y hy
    rcases List.mem_or_eq_of_mem_set hy with h1 | rfl
    · exact h.shot y h1
    · exact hs
theorem getD_set_true {l : List Bool} {i k : Nat} (h : l.getD k false = true) : (l.set i true).getD k false = true := by
  have hk : k < l.length := by
    rcases Nat.lt_or_ge k l.length with h' | h'
    · exact h'
    · simp [List.getD, List.getElem?_eq_none h'] at h
  simp only [List.getD, List.getElem?_set] at h ⊢
  split
  · split <;> simp_all
  · exact h
theorem NetOk.close {σ : Net} (h : NetOk σ) (i j k : Nat) : NetOk (σ.close i j k) := by
  unfold Net.close
  split
  case h_2 => exact h
  case h_1 x hx =>
    obtain ⟨a1, a2, a3, a4, a5, a6, a7⟩ := h.shot x (List.mem_of_getElem? hx)
    refine h.shotSet hx (fun k h => h) ⟨a1, by simpa using a2, fun r hr => ?_, a4, a5, a6, a7⟩
    by_cases hi : i < x.closed.length
    · rcases List.mem_or_eq_of_mem_set hr with h1 | rfl
      · exact a3 r h1
      · rw [List.length_set]
        exact a3 _ (by simp [List.getD, hi])
    · rw [List.set_eq_of_length_le (by omega)] at hr
      exact a3 r hr
theorem NetOk.record {σ : Net} (h : NetOk σ) {k i : Nat} {x : Shot} (hx : σ.shots[i]? = some x) (hk : k < σ.sta.length) (hf : x.recorded.getD k false = false) : NetOk (σ.record k i) := by
  obtain ⟨s, hs⟩ : ∃ s, σ.sta[k]? = some s := ⟨_, List.getElem?_eq_getElem hk⟩
  unfold Net.record
  rw [hs, hx]
  simp only
  obtain ⟨a1, a2, a3, a4, a5, a6, a7⟩ := h.shot x (List.mem_of_getElem? hx)
  have h1 : NetOk { σ with shots := σ.shots.set i { x with recorded := x.recorded.set k true, pieces := x.pieces.set k s.pieces, cut := x.cut.set k s.events } } :=
    h.shotSet hx (fun k h => getD_set_true h) ⟨by simpa using a1, a2, a3, by simpa using a4, by simpa using a5, a6, a7⟩
  have hil := (List.getElem?_eq_some_iff.1 hx).1
  refine h1.mark k (i + 1) ⟨by omega, by simp only [List.length_set]; omega⟩ ?_ _ (Nat.le_refl _)
  intro r l hr hl
  have h2 := h.line k r l hr hl
  have h3 := countP_set_more (fun x => x.recorded.getD k false) hx { x with recorded := x.recorded.set k true, pieces := x.pieces.set k s.pieces, cut := x.cut.set k s.events } hf (by simp [List.getD, List.getElem?_set, a1, hk])
  simp only at h3 ⊢
  omega
theorem NetOk.heard {σ : Net} (h : NetOk σ) (i j k : Nat) (hj : j < σ.sta.length) : NetOk (σ.heard i j k) := by
  unfold Net.heard
  split
  case h_2 => exact h
  case h_1 x hx =>
    cases hf : x.recorded.getD j false with
    | true => exact h.close i j k
    | false => exact (h.record hx hj hf).close i j k
theorem NetOk.underTo {σ : Net} (h : NetOk σ) (i j : Nat) (p : Int) (hroom : ∀ x ∈ σ.shots, ∀ r ∈ x.under, ∀ l ∈ r, l.length < σ.evs.length) : ∀ t, NetOk (σ.underTo i j p t)
  | 0 => h
  | t + 1 => by
    unfold Net.underTo
    have ih := NetOk.underTo h i j p hroom t
    obtain ⟨k1, k2, k3, k4, k5⟩ := Net.underTo_keeps σ i j p t
    split
    case h_2 => exact ih
    case h_1 x hx =>
      split
      case isFalse => exact ih
      case isTrue hc =>
        obtain ⟨a1, a2, a3, a4, a5, a6, a7⟩ := ih.shot x (List.mem_of_getElem? hx)
        have hx0 : x ∈ σ.shots := List.mem_of_getElem? (by rw [← k5 t (Nat.le_refl _)]; exact hx)
        refine ih.shotSet hx (fun k h => h) ⟨a1, a2, a3, a4, a5, by simpa using a6, fun r hr => ?_⟩
        by_cases hi : i < x.under.length
        · rcases List.mem_or_eq_of_mem_set hr with h1 | rfl
          · exact a7 r h1
          · have hm : x.under.getD i [] ∈ x.under := by simp [List.getD, hi]
            refine ⟨by rw [List.length_set]; exact (a7 _ hm).1, fun l hl => ?_⟩
            by_cases hjl : j < (x.under.getD i []).length
            · rcases List.mem_or_eq_of_mem_set hl with h1 | rfl
              · exact (a7 _ hm).2 l h1
              · have := hroom x hx0 _ hm ((x.under.getD i []).getD j []) (by simp only [List.getD] at hjl ⊢; simp [hjl])
                rw [k3]
                simp only [List.length_append, List.length_singleton]
                omega
            · rw [List.set_eq_of_length_le (by omega)] at hl
              exact (a7 _ hm).2 l hl
        · rw [List.set_eq_of_length_le (by omega)] at hr
          exact a7 r hr
theorem NetOk.take {σ : Net} (h : NetOk σ) (he : σ.evs.length < 400) (i j : Nat) (hj : j < σ.sta.length) (x : Msg) (hx : 0 < x.told ∧ x.told ≤ 1000000 ∧ x.clock.length = σ.sta.length ∧ ∀ t ∈ x.clock, 0 ≤ t ∧ t ≤ σ.evs.length) : NetOk (σ.take i j x) := by
  obtain ⟨s, hs⟩ : ∃ s, σ.sta[j]? = some s := ⟨_, List.getElem?_eq_getElem hj⟩
  obtain ⟨x1, x2, x3, x4⟩ := hx
  obtain ⟨a1, a2, a3, a4, a5, a6⟩ := h.sta s (List.mem_of_getElem? hs)
  unfold Net.take
  rw [Net.take3 hs]
  have h1 := h.step he j ⟨s.pieces + x.told, s.events + 1, (mergeTo s.clock x.clock j x.clock.length).set j ((mergeTo s.clock x.clock j x.clock.length).getD j 0 + 1)⟩ ⟨j, 3, i, x.told, (mergeTo s.clock x.clock j x.clock.length).set j ((mergeTo s.clock x.clock j x.clock.length).getD j 0 + 1)⟩
    ⟨by simpa [mergeTo_length] using a1, by simp only; omega, by simp only; omega, by simp only; omega, by simp only; omega, clock_up (by omega) (mergeTo_bound a6 x4 (by omega) _)⟩
  refine h1.underTo i j x.told ?_ _
  intro y hy r hr l hl
  have := ((h.shot y hy).2.2.2.2.2.2 r hr).2 l hl
  simp only [List.length_append, List.length_singleton]
  omega
theorem Net.drop_keeps (σ : Net) (i j : Nat) : (σ.drop i j).sta = σ.sta ∧ (σ.drop i j).shots = σ.shots ∧ (σ.drop i j).evs = σ.evs := by
  unfold Net.drop; split <;> exact ⟨rfl, rfl, rfl⟩

theorem NetOk.work {σ : Net} (h : NetOk σ) (no p : Int) : NetOk (σ.work no p).2 := by
  unfold Net.work
  split
  · exact h
  · split
    · exact h
    · rename_i h1 h2
      have h1 : (0 ≤ no ∧ no < σ.sta.length) ∧ 1 ≤ p ∧ p ≤ 1000000 := Decidable.not_not.1 h1
      obtain ⟨s, hs⟩ : ∃ s, σ.sta[no.toNat]? = some s := ⟨_, List.getElem?_eq_getElem (by omega)⟩
      have := (h.sta s (List.mem_of_getElem? hs)).2.1
      exact h.workD (by omega) hs p 1 no p (by omega) (by omega)
theorem NetOk.send {σ : Net} (h : NetOk σ) (x y p : Int) : NetOk (σ.send x y p).2 := by
  unfold Net.send
  split
  · exact h
  · split
    · exact h
    · split
      · exact h
      · split
        · exact h
        · rename_i h1 h2 h3 h4
          rcases pairErr_cases σ.sta.length x y with h5 | ⟨_, i, j, rfl, rfl, hi, hj, hij⟩
          · exact absurd (by rw [h5]; decide) h1
          · have h2 := parcB_range (by simpa using h2)
            obtain ⟨s, hs⟩ : ∃ s, σ.sta[i]? = some s := ⟨_, List.getElem?_eq_getElem hi⟩
            have hheld : σ.held i = s.pieces := by simp [Net.held, hs]
            simp only [Int.toNat_natCast] at h3 ⊢
            rw [hheld] at h3
            have h6 := h.workD (by omega) hs (-p) 2 j p (by omega) (by omega)
            obtain ⟨a1, a2, a3, a4, a5, a6⟩ := h.sta s (List.mem_of_getElem? hs)
            refine h6.push i j _ ?_ ?_
            · intro r l hr hl
              rw [Net.gain_did hs] at hr ⊢
              have := h.line i r l hr (List.mem_of_getElem? hl)
              simp only [List.length_append, List.length_singleton]
              omega
            · refine .inl ⟨by simp only; omega, by simp only; omega, ?_⟩
              rw [Net.gain_did hs]
              simp only [Net.clockOf, List.getElem?_set_self hi, List.length_set, List.length_append, List.length_singleton]
              exact ⟨a1, fun t ht => by have := clock_up (by omega) a6 t ht; omega⟩
theorem NetOk.recv {σ : Net} (h : NetOk σ) (x y : Int) : NetOk (σ.recv x y).2 := by
  unfold Net.recv
  split
  · exact h
  · rename_i h1
    rcases pairErr_cases σ.sta.length x y with h5 | ⟨_, i, j, rfl, rfl, hi, hj, hij⟩
    · exact absurd (by rw [h5]; decide) h1
    · simp only [Int.toNat_natCast]
      obtain ⟨d1, d2, d3⟩ := Net.drop_keeps σ i j
      split
      · exact h
      · rename_i m l hl
        split
        · split
          · exact h
          · refine (h.drop i j).take (by rw [d3]; omega) i j (by rw [d1]; exact hj) m ?_
            rename_i h0 h2
            obtain ⟨r, hr⟩ : ∃ r, σ.chan[i]? = some r := ⟨_, List.getElem?_eq_getElem (by rw [h.rows]; exact hi)⟩
            have hrm := List.mem_of_getElem? hr
            have hl2 : r[j]? = some (m :: l) := by
              have hrl := h.cols r hrm
              have := List.getElem?_eq_getElem (l := r) (i := j) (by omega)
              simp only [Net.lineAt, List.getD, hr, Option.getD_some, this] at hl
              rw [this, hl]
            rw [d1, d3]
            rcases h.msg r hrm (m :: l) (List.mem_of_getElem? hl2) m (by simp) with a | a
            · exact a
            · omega
        · exact (h.drop i j).heard i j _ (by rw [d1]; exact hj)
theorem NetOk.start {σ : Net} (h : NetOk σ) (x : Int) : NetOk (σ.start x).2.2 := by
  unfold Net.start
  split
  · exact h
  · split
    · exact h
    · rename_i h1 h2
      have h1 : 0 ≤ x ∧ x < σ.sta.length := Decidable.not_not.1 h1
      refine (h.addShot (by omega)).record (x := Shot.new σ.sta.length) (by simp [Net.addShot]) (by show x.toNat < σ.sta.length; omega) ?_
      simp only [Shot.new, List.getD, List.getElem?_replicate]
      split <;> rfl
theorem NetOk.new {l : List Int} (h : newOk l) : NetOk (Net.new l) := by
  obtain ⟨h2, h5, hb⟩ := h
  rw [List.any_eq_false] at hb
  refine ⟨by simpa [Net.new] using h2, by simpa [Net.new] using h5, by simp [Net.new], ?_, by simp [Net.new], by simp [Net.new], ?_, ?_, ?_, by simp [Net.new]⟩
  · intro r hr
    have := (List.mem_replicate.1 hr).2
    subst this; simp [Net.new]
  · intro s hs
    obtain ⟨p, hp, rfl⟩ := List.mem_map.1 hs
    have := hb p hp
    simp only [badP, decide_eq_true_eq, not_or] at this
    refine ⟨by simp [Sta.new, Net.new], by simp only [Sta.new]; omega, by simp only [Sta.new, Net.new]; simp; omega, by simp [Sta.new], by simp [Sta.new, Net.new], fun t ht => ?_⟩
    have := (List.mem_replicate.1 ht).2
    subst this; simp [Net.new]
  · intro i r l hr hl
    have := (List.mem_replicate.1 (List.mem_of_getElem? hr)).2
    subst this
    have := (List.mem_replicate.1 hl).2
    subst this; simp
  · intro r hr l hl x hx
    have := (List.mem_replicate.1 hr).2
    subst this
    have := (List.mem_replicate.1 hl).2
    subst this; simp at hx
end Go.Proofs.Ytnkgfgkgepadhaa
