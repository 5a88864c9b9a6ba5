/-
  Plain: the history of a net's events; a cut is consistent as the statement says.
-/
import Derived.Test.YtnkgfgkgepadhaaClk2
import Derived.Test.YtnkgfgkgepadhaaHistC
import Derived.Test.YtnkgfgkgepadhaaWholeW
namespace Go.Proofs.Ytnkgfgkgepadhaa
set_option linter.unusedVariables false
set_option linter.unusedSimpArgs false

theorem sGet_sPut : ∀ (s : List ((Int × Int) × List Int)) (q p : Int × Int) (l : List Int), sGet (sPut s q l) p = if q = p then l else sGet s p
  | [], q, p, l => by simp [sPut, sGet]
  | (q', l') :: s, q, p, l => by
    unfold sPut
    by_cases h : q' = q
    · subst h
      rw [if_pos rfl]
      simp only [sGet]
      split <;> rfl
    · rw [if_neg h]
      simp only [sGet]
      rw [sGet_sPut s q p l]
      by_cases h1 : q' = p
      · subst h1
        rw [if_pos rfl, if_neg (Ne.symm h), if_pos rfl]
      · rw [if_neg h1, if_neg h1]
/-- What event i needs. -/
def NeedIs (l : List Ev) (i k : Nat) (x : Int × Int) : Prop :=
  ((l.getD i dfEv).what ≠ 3 ∧ x = (0, 0)) ∨
  ((l.getD i dfEv).what = 3 ∧ ∃ a j : Nat, (l.getD i dfEv).other = a ∧ j < i ∧ isSend a k (l.getD j dfEv) = true ∧ scnt (l.take j) a k = rcnt (l.take i) a k ∧ x = ((a : Int), ckN l j a))
theorem NeedIs.app {l : List Ev} {i k : Nat} {x : Int × Int} (e : Ev) (hi : i < l.length) (h : NeedIs l i k x) : NeedIs (l ++ [e]) i k x := by
  unfold NeedIs ckN at h ⊢
  rw [getD_app hi, take_app (by omega)]
  rcases h with h | ⟨h1, a, j, h2, h3, h4, h5, h6⟩
  · exact .inl h
  · exact .inr ⟨h1, a, j, h2, h3, by rw [getD_app (by omega)]; exact h4, by rw [take_app (by omega)]; exact h5, by rw [getD_app (by omega)]; exact h6⟩
structure HistEv (n : Nat) (l : List Ev) (h : Hist) : Prop where
  len : h.needs.length = n
  row : ∀ s, s < n → (h.needs.getD s []).length = cntS l l.length s
  need : ∀ i k : Nat, i < l.length → (l.getD i dfEv).station = (k : Int) → ∃ x, (h.needs.getD k [])[cntS l i k]? = some x ∧ NeedIs l i k x
  sent : ∀ a b : Nat, a < n → b < n → sGet h.sent ((a : Int), (b : Int)) = (pend l a b).map fun e => e.clock.getD a 0
theorem cntS_app {l : List Ev} {e : Ev} {t s : Nat} (h : t ≤ l.length) : cntS (l ++ [e]) t s = cntS l t s := by unfold cntS; rw [take_app h]
theorem cntS_app_end {l : List Ev} {e : Ev} {s : Nat} : cntS (l ++ [e]) (l ++ [e]).length s = cntS l l.length s + if e.station = (s : Int) then 1 else 0 := by
  rw [List.length_append, List.length_singleton, cntS_succ (by simp), getD_end, cntS_app (Nat.le_refl _)]
theorem HistEv.snoc {n : Nat} {l : List Ev} {h : Hist} (hv : HistEv n l h) {e : Ev} {k : Nat} (hk : k < n) (he : e.station = (k : Int)) {x : Int × Int} (hx : NeedIs (l ++ [e]) l.length k x) {sent' : List ((Int × Int) × List Int)}
    (hs : ∀ a b : Nat, a < n → b < n → sGet sent' ((a : Int), (b : Int)) = (pend (l ++ [e]) a b).map fun e => e.clock.getD a 0) : HistEv n (l ++ [e]) ⟨h.add e.station x, sent'⟩ := by
  have hadd : ∀ s, (h.add e.station x).getD s [] = if s = k then h.needs.getD k [] ++ [x] else h.needs.getD s [] := fun s => by
    unfold Hist.add
    rw [he, Int.toNat_natCast, getD_set]
    by_cases hs : s = k
    · subst hs; rw [if_pos ⟨rfl, by rw [hv.len]; exact hk⟩, if_pos rfl]
    · rw [if_neg (by omega), if_neg hs]
  refine ⟨by simp only [Hist.add, List.length_set]; exact hv.len, fun s hs => ?_, fun i k' hi hk' => ?_, hs⟩
  · rw [hadd, cntS_app_end, ← hv.row s hs]
    by_cases hsk : s = k
    · subst hsk; rw [if_pos rfl, if_pos he]; simp
    · rw [if_neg hsk, if_neg (by omega)]; rfl
  · rw [hadd]
    by_cases hil : i < l.length
    · rw [getD_app hil] at hk'
      rw [cntS_app (by omega)]
      obtain ⟨y, h1, h2⟩ := hv.need i k' hil hk'
      refine ⟨y, ?_, h2.app e hil⟩
      split
      · rename_i hkk
        subst hkk
        have hlt := (List.getElem?_eq_some_iff.1 h1).1
        rw [List.getElem?_append_left hlt]; exact h1
      · exact h1
    · have hil : i = l.length := by simp at hi; omega
      subst hil
      rw [getD_end] at hk'
      have : k' = k := by omega
      subst this
      rw [if_pos rfl, cntS_app (Nat.le_refl _), ← hv.row k' hk]
      exact ⟨x, by simp, hx⟩
theorem Good.hist {n : Nat} {l : List Ev} (hg : Good n l) : ∃ h, Hist.run n (Hist.zero n) l = some h ∧ HistEv n l h := by
  induction hg with
  | nil =>
    refine ⟨_, rfl, by simp [Hist.zero], fun s hs => by simp [Hist.zero, List.getD, hs, cntS], fun i k hi => by simp at hi, fun a b _ _ => by simp [Hist.zero, sGet, pend]⟩
  | @work l k p hg hk ih =>
    obtain ⟨h, hr, hv⟩ := ih
    refine ⟨⟨h.add k (0, 0), h.sent⟩, ?_, hv.snoc (k := k) hk rfl (.inl ⟨by rw [getD_end]; simp [evWork], rfl⟩) fun a b ha hb => ?_⟩
    · rw [Hist.run_snoc, hr]
      simp only [Hist.step]
      rw [if_neg (by simp [evBad, evWork]; omega), if_neg (by simp [evWork]), if_neg (by simp [evWork])]
      rfl
    · rw [pend_snoc (hg.le a b), isSend_work, isRecv_work]
      exact hv.sent a b ha hb
  | @send l i j p hg hi hj hij ih =>
    obtain ⟨h, hr, hv⟩ := ih
    have hg' : Good n (l ++ [evSend n l i j p]) := .send i j p hg hi hj hij
    refine ⟨⟨h.add i (0, 0), sPut h.sent ((i : Int), (j : Int)) (sGet h.sent ((i : Int), (j : Int)) ++ [((h.needs.getD i []).length : Int) + 1])⟩, ?_, hv.snoc (k := i) hi rfl (.inl ⟨by rw [getD_end]; simp [evSend], rfl⟩) fun a b ha hb => ?_⟩
    · rw [Hist.run_snoc, hr]
      simp only [Hist.step]
      rw [if_neg (by simp [evBad, evSend]; omega), if_pos (by simp [evSend])]
      simp [evSend]
    · rw [sGet_sPut, pend_snoc (hg.le a b), isSend_send, isRecv_send]
      by_cases hab : a = i ∧ b = j
      · obtain ⟨rfl, rfl⟩ := hab
        rw [if_pos rfl, hv.sent a b ha hb, hv.row a ha]
        have h1 := (hg'.bound l.length (by simp)).2 a (by rw [getD_end]; rfl)
        have h2 := cntS_app_end (l := l) (e := evSend n l a b p) (s := a)
        rw [List.length_append, List.length_singleton] at h2
        unfold ckN at h1
        rw [getD_end, h2, if_pos (by rfl)] at h1
        simp only [decide_true, Bool.and_true, if_true, List.map_append, List.map_cons, List.map_nil, h1]
        simp
      · have hne : ¬ (((i : Int), (j : Int)) = ((a : Int), (b : Int))) := fun h => hab (by simp only [Prod.mk.injEq] at h; omega)
        have hf : (decide (a = i) && decide (b = j)) = false := by rw [← Bool.decide_and]; exact decide_eq_false hab
        rw [if_neg hne, hf]
        exact hv.sent a b ha hb
  | @recv l i j x rest hg hi hj hij hp ih =>
    obtain ⟨h, hr, hv⟩ := ih
    obtain ⟨q, hq, hx, hs, hc⟩ := pend_head hp
    have hsent := hv.sent i j hi hj
    rw [hp, List.map_cons] at hsent
    refine ⟨⟨h.add j ((i : Int), x.clock.getD i 0), sPut h.sent ((i : Int), (j : Int)) (rest.map fun e => e.clock.getD i 0)⟩, ?_, hv.snoc (k := j) hj rfl (.inr ⟨by rw [getD_end]; rfl, i, q, by rw [getD_end]; rfl, hq, ?_, ?_, ?_⟩) fun a b ha hb => ?_⟩
    · rw [Hist.run_snoc, hr]
      simp only [Hist.step]
      rw [if_neg (by simp [evBad, evRecv]; omega), if_neg (by simp [evRecv]), if_pos (by simp [evRecv])]
      simp only [evRecv]
      rw [hsent]
    · rw [getD_app hq, hx]; exact hs
    · rw [take_app (by omega), take_app (Nat.le_refl _), List.take_length]; exact hc
    · unfold ckN; rw [getD_app hq, hx]
    · rw [sGet_sPut, pend_snoc (hg.le a b), isSend_recv, isRecv_recv]
      by_cases hab : a = i ∧ b = j
      · obtain ⟨rfl, rfl⟩ := hab
        rw [if_pos rfl, hp]
        simp
      · have hne : ¬ (((i : Int), (j : Int)) = ((a : Int), (b : Int))) := fun h => hab (by simp only [Prod.mk.injEq] at h; omega)
        have hf : (decide (a = i) && decide (b = j)) = false := by rw [← Bool.decide_and]; exact decide_eq_false hab
        rw [if_neg hne, hf]
        exact hv.sent a b ha hb

/-! ### A cut is consistent -/
/-- Within the cut. -/
def inCut (l : List Ev) (cut : List Int) (i k : Nat) : Prop := (cntS l i k : Int) < cut.getD k 0
theorem snAt_get {n : Nat} {l : List Ev} (hst : ∀ i, i < l.length → ∃ k : Nat, k < n ∧ (l.getD i dfEv).station = (k : Int)) {s : Nat} (hs : s < n) : ∀ t, t ≤ l.length → (snAt n l t).getD s 0 = cntS l t s
  | 0, _ => by simp [snAt, List.getD, hs, cntS]
  | t + 1, ht => by
    obtain ⟨k, hk, hkk⟩ := hst t (by omega)
    unfold snAt
    rw [hkk, Int.toNat_natCast, getD_set, snAt_length, cntS_succ (by omega), hkk]
    by_cases h : k = s
    · subst h
      rw [if_pos ⟨rfl, hk⟩, snAt_get hst hk t (by omega), if_pos rfl]; omega
    · rw [if_neg (by omega), snAt_get hst hs t (by omega), if_neg (by omega)]; rfl
theorem wnAt_get (n : Nat) (l : List Ev) (cut : List Int) (i : Nat) : ∀ t, t ≤ l.length → (wnAt n l cut t).getD i false = (decide (i < t) && wnB n l cut i)
  | 0, _ => by
    by_cases h : i < l.length <;> simp [wnAt, List.getD, h]
  | t + 1, ht => by
    unfold wnAt
    rw [getD_set, wnAt_length, wnAt_get n l cut i t (by omega)]
    by_cases h : t = i
    · subst h
      rw [if_pos ⟨rfl, by omega⟩]; simp
    · rw [if_neg (by omega)]
      have : decide (i < t + 1) = decide (i < t) := by simp only [decide_eq_decide]; omega
      rw [this]
theorem Good.whole {n : Nat} {l : List Ev} (hg : Good n l) (n0 : 0 < n) {h : Hist} (hv : HistEv n l h) (cut : List Int) : cutOk h.needs cut = wlOk n l (csAll l l.length) cut := by
  have hst : ∀ i, i < l.length → ∃ k : Nat, k < n ∧ (l.getD i dfEv).station = (k : Int) := fun i hi => by
    obtain ⟨k, hk, hs, _⟩ := hg.at i hi
    exact ⟨k, hk, hs⟩
  have hsn : ∀ s t, s < n → t ≤ l.length → (snAt n l t).getD s 0 = cntS l t s := fun s t hs ht => snAt_get hst hs t ht
  have hwn : ∀ i k : Nat, i < l.length → (l.getD i dfEv).station = (k : Int) → k < n → ((wnAt n l cut l.length).getD i false = true ↔ inCut l cut i k) := fun i k hi hk hkn => by
    rw [wnAt_get _ _ _ _ _ (Nat.le_refl _)]
    unfold wnB inCut
    rw [hk, Int.toNat_natCast, hsn k i hkn (by omega)]
    simp [hi]
  -- the one side
  have hL : cutOk h.needs cut = true ↔ (∀ s, s < n → 0 ≤ cut.getD s 0 ∧ cut.getD s 0 ≤ cntS l l.length s) ∧ ∀ i k : Nat, i < l.length → (l.getD i dfEv).station = (k : Int) → inCut l cut i k → ∀ x, (h.needs.getD k [])[cntS l i k]? = some x → x.2 ≤ cut.getD x.1.toNat 0 := by
    unfold cutOk cutRow
    simp only [List.all_eq_true, List.mem_range, Bool.and_eq_true, decide_eq_true_eq]
    rw [hv.len]
    constructor
    · intro hc
      refine ⟨fun s hs => ⟨(hc s hs).1, by rw [← hv.row s hs]; exact (hc s hs).2.1⟩, fun i k hi hk hin x hx => ?_⟩
      obtain ⟨k', hk', hkk⟩ := hst i hi
      have : k' = k := by omega
      subst this
      refine (hc k' hk').2.2 x ?_
      unfold inCut at hin
      have hlt := (List.getElem?_eq_some_iff.1 hx).1
      refine List.mem_of_getElem? (i := cntS l i k') ?_
      rw [List.getElem?_take_of_lt (by omega)]; exact hx
    · rintro ⟨h1, h2⟩ s hs
      refine ⟨(h1 s hs).1, by rw [hv.row s hs]; exact (h1 s hs).2, fun x hx => ?_⟩
      obtain ⟨o, ho⟩ := List.getElem?_of_mem hx
      have hol := (List.getElem?_eq_some_iff.1 ho).1
      rw [List.length_take] at hol
      rw [List.getElem?_take_of_lt (by omega)] at ho
      have hrow := hv.row s hs
      obtain ⟨i, hi, his, hio⟩ := cntS_find (l := l) (s := s) l.length (Nat.le_refl _) (o + 1) (by omega) (by omega)
      have hoc : cntS l i s = o := by have := cntS_own hi his; omega
      refine h2 i s hi his ?_ x (by rw [hoc]; exact ho)
      unfold inCut
      have := (h1 s hs).1
      omega
  -- the other
  have hR : wlOk n l (csAll l l.length) cut = true ↔ (∀ s, s < n → 0 ≤ cut.getD s 0 ∧ cut.getD s 0 ≤ cntS l l.length s) ∧ ∀ i k : Nat, i < l.length → k < i → ¬ ((wnAt n l cut l.length).getD i false = true ∧ Cz (csDir l) i k ∧ (wnAt n l cut l.length).getD k false = false) := by
    unfold wlOk wlCut wlBad
    simp only [List.all_eq_true, List.mem_range, Bool.and_eq_true, decide_eq_true_eq, Bool.not_eq_true', Bool.and_eq_false_iff]
    refine and_congr ?_ ?_
    · exact forall_congr' fun s => forall_congr' fun hs => by rw [hsn s l.length hs (Nat.le_refl _)]
    · constructor
      · intro hc i k hi hk ⟨h1, h2, h3⟩
        have := hc i hi k hk
        rw [h1, (causal l i hi k).2 h2, h3] at this
        simp at this
      · intro hc i hi k hk
        have := hc i k hi hk
        cases h1 : (wnAt n l cut l.length).getD i false with
        | false => exact .inl rfl
        | true =>
          refine .inr ?_
          cases h2 : ((csAll l l.length).getD i []).getD k false with
          | false => exact .inl rfl
          | true =>
            refine .inr ?_
            cases h3 : (wnAt n l cut l.length).getD k false with
            | true => rfl
            | false => exact absurd ⟨h1, (causal l i hi k).1 h2, h3⟩ this
  rw [Bool.eq_iff_iff, hL, hR]
  refine and_congr_right fun hb => ?_
  constructor
  · -- what is needed is within the cut, so all that is before is
    intro hn i m hi hm ⟨h1, h2, h3⟩
    have key : ∀ i m, Cz (csDir l) i m → i < l.length → (wnAt n l cut l.length).getD i false = true → (wnAt n l cut l.length).getD m false = true := by
      have one : ∀ i d, d < i → csDir l i d = true → i < l.length → (wnAt n l cut l.length).getD i false = true → (wnAt n l cut l.length).getD d false = true := fun i d hd hdir hi hin => by
        obtain ⟨k, hk, hs, hE⟩ := hg.at i hi
        have hin' := (hwn i k hi hs hk).1 hin
        rcases (dir_iff hi hd hs hE).1 hdir with h4 | ⟨a, hw, ho, h5, h6⟩
        · refine (hwn d k (by omega) h4 hk).2 ?_
          unfold inCut at hin' ⊢
          have := cntS_le (l := l) (show d ≤ i by omega) k
          omega
        · obtain ⟨x, hx1, hx2⟩ := hv.need i k hi hs
          have hx3 := hn i k hi hs hin' x hx1
          rcases hx2 with ⟨hx2, _⟩ | ⟨_, a', j, ho', hj, h7, h8, rfl⟩
          · exact absurd hw hx2
          · have : a' = a := by omega
            subst this
            have := scnt_uniq (l := l) (by omega) (by omega) h5 h7 (by omega)
            subst this
            obtain ⟨a2, ha2, hsa, _⟩ := hg.at d (by omega)
            have hda : (l.getD d dfEv).station = (a' : Int) := by
              simp only [isSend, Bool.and_eq_true, beq_iff_eq] at h5
              exact h5.2.1
            have : a2 = a' := by omega
            subst this
            refine (hwn d a2 (by omega) hda ha2).2 ?_
            have := (hg.bound d (by omega)).2 a2 hda
            have := cntS_own (l := l) (m := d) (by omega) hda
            simp only [Int.toNat_natCast] at hx3
            unfold inCut
            omega
      intro i m hc
      induction hc with
      | one h1 h2 => exact fun hi hin => one _ _ h1 h2 hi hin
      | more h1 h2 _ ih => exact fun hi hin => ih (by omega) (one _ _ h1 h2 hi hin)
    have := key i m h2 hi h1
    rw [h3] at this
    cases this
  · intro hn i k hi hk hin x hx
    obtain ⟨k', hk', hs, hE⟩ := hg.at i hi
    have : k' = k := by omega
    subst this
    obtain ⟨y, hy1, hy2⟩ := hv.need i k' hi hs
    rw [hx] at hy1
    injection hy1 with hy1
    subst hy1
    rcases hy2 with ⟨_, rfl⟩ | ⟨hw, a, j, ho, hj, h7, h8, rfl⟩
    · exact (hb 0 n0).1
    · obtain ⟨a2, ha2, hsa, _⟩ := hg.at j (by omega)
      have hda : (l.getD j dfEv).station = (a : Int) := by
        simp only [isSend, Bool.and_eq_true, beq_iff_eq] at h7
        exact h7.2.1
      have : a2 = a := by omega
      subst this
      have hj2 : (wnAt n l cut l.length).getD j false = true := by
        cases h3 : (wnAt n l cut l.length).getD j false with
        | true => rfl
        | false => exact absurd ⟨(hwn i k' hi hs hk').2 hin, Cz.one hj ((dir_iff hi hj hs hE).2 (.inr ⟨a2, hw, ho, h7, h8⟩)), h3⟩ (hn i j hi hj)
      have hj3 := (hwn j a2 (by omega) hda ha2).1 hj2
      have := (hg.bound j (by omega)).2 a2 hda
      have := cntS_own (l := l) (m := j) (by omega) hda
      unfold inCut at hj3
      simp only [Int.toNat_natCast]
      omega
theorem Good.recErr {n : Nat} {l : List Ev} (hg : Good n l) (n2 : 2 ≤ n) (n5 : n ≤ 5) (h60 : l.length ≤ 60) : recErr n l = 0 := by
  obtain ⟨h, hr, _⟩ := hg.hist
  unfold Go.Proofs.Ytnkgfgkgepadhaa.recErr
  rw [if_neg (by omega), if_neg (by omega), Int.toNat_natCast, hr]
theorem Good.con {n : Nat} {l : List Ev} (hg : Good n l) (n2 : 2 ≤ n) (n5 : n ≤ 5) (h60 : l.length ≤ 60) (cut : List Int) : conR n l cut = if cut.length = n then (wlOk n l (csAll l l.length) cut, 0) else (false, 2) := by
  obtain ⟨h, hr, hv⟩ := hg.hist
  unfold conR
  rw [if_neg (by rw [hg.recErr n2 n5 h60]; decide), Int.toNat_natCast, hr]
  by_cases hc : cut.length = n
  · rw [if_neg (by omega), if_pos hc]
    simp only
    rw [hg.whole (by omega) hv]
  · rw [if_pos (by omega), if_neg hc]
end Go.Proofs.Ytnkgfgkgepadhaa
