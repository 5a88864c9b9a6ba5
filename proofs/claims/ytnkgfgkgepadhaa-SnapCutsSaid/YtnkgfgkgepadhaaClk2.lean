/-
  Plain: the causal past by the rows of causes, and by the clocks.
-/
import Derived.Test.YtnkgfgkgepadhaaClk1
import Derived.Test.YtnkgfgkgepadhaaCauses
import Derived.Test.YtnkgfgkgepadhaaBefores
namespace Go.Proofs.Ytnkgfgkgepadhaa
set_option linter.unusedVariables false
set_option linter.unusedSimpArgs false

inductive Cz (dir : Nat → Nat → Bool) : Nat → Nat → Prop
  | one {i d : Nat} : d < i → dir i d = true → Cz dir i d
  | more {i d m : Nat} : d < i → dir i d = true → Cz dir d m → Cz dir i m
theorem Cz.lt {dir : Nat → Nat → Bool} {i m : Nat} (h : Cz dir i m) : m < i := by
  induction h with
  | one h _ => exact h
  | more h _ _ ih => omega
theorem Cz_iff {dir : Nat → Nat → Bool} {i m : Nat} : Cz dir i m ↔ ∃ d, d < i ∧ dir i d = true ∧ (m = d ∨ Cz dir d m) := by
  constructor
  · intro h
    cases h with
    | one h1 h2 => exact ⟨_, h1, h2, .inl rfl⟩
    | more h1 h2 h3 => exact ⟨_, h1, h2, .inr h3⟩
  · rintro ⟨d, h1, h2, rfl | h3⟩
    · exact .one h1 h2
    · exact .more h1 h2 h3
theorem Cz.trans {dir : Nat → Nat → Bool} {i k m : Nat} (h : Cz dir i k) (h' : Cz dir k m) : Cz dir i m := by
  induction h with
  | one h1 h2 => exact .more h1 h2 h'
  | more h1 h2 _ ih => exact .more h1 h2 (ih h')
theorem orUp_get (row o : List Bool) : ∀ t, t ≤ row.length → ∀ m, (orUp row o t).getD m false = (row.getD m false || (decide (m < t) && o.getD m false))
  | 0, _, m => by simp [orUp]
  | t + 1, ht, m => by
    have ih := orUp_get row o t (by omega)
    unfold orUp
    rw [getD_set, orUp_length]
    by_cases h : t = m
    · subst h
      rw [if_pos ⟨rfl, by omega⟩, ih]; simp
    · rw [if_neg (by omega), ih]
      have : decide (m < t + 1) = decide (m < t) := by simp only [decide_eq_decide]; omega
      rw [this]
theorem csRow_get (l : List Ev) (out : List (List Bool)) (i : Nat) : ∀ t, t ≤ l.length → ∀ m, (csRow l out i t).getD m false = true ↔ ∃ d, d < t ∧ csDir l i d = true ∧ (m = d ∨ (m < d ∧ (out.getD d []).getD m false = true))
  | 0, _, m => by
    have : (csRow l out i 0).getD m false = false := by
      unfold csRow
      by_cases h : m < l.length <;> simp [List.getD, h]
    rw [this]
    exact ⟨fun h => (by cases h), fun ⟨d, h, _⟩ => by omega⟩
  | t + 1, ht, m => by
    have ih := csRow_get l out i t (by omega) m
    unfold csRow
    split
    · rename_i hd
      rw [orUp_get _ _ _ (by rw [List.length_set, csRow_length]; omega), getD_set, csRow_length]
      constructor
      · intro h
        simp only [Bool.or_eq_true, Bool.and_eq_true, decide_eq_true_eq] at h
        rcases h with h | ⟨h1, h2⟩
        · split at h
          · rename_i h3; exact ⟨t, by omega, hd, .inl h3.1.symm⟩
          · obtain ⟨d, h1, h2, h3⟩ := ih.1 h
            exact ⟨d, by omega, h2, h3⟩
        · exact ⟨t, by omega, hd, .inr ⟨h1, h2⟩⟩
      · rintro ⟨d, h1, h2, h3⟩
        simp only [Bool.or_eq_true, Bool.and_eq_true, decide_eq_true_eq]
        by_cases hdt : d = t
        · subst hdt
          rcases h3 with rfl | h3
          · left; rw [if_pos ⟨rfl, by omega⟩]
          · exact .inr h3
        · left
          split
          · rfl
          · exact ih.2 ⟨d, by omega, h2, h3⟩
    · rename_i hd
      rw [ih]
      constructor
      · rintro ⟨d, h1, h2, h3⟩; exact ⟨d, by omega, h2, h3⟩
      · rintro ⟨d, h1, h2, h3⟩
        refine ⟨d, ?_, h2, h3⟩
        by_cases hdt : d = t
        · subst hdt; exact absurd h2 hd
        · omega
theorem csAll_get (l : List Ev) : ∀ t i, i < t → (csAll l t).getD i [] = csRow l (csAll l i) i i
  | 0, i, h => by omega
  | t + 1, i, h => by
    show (csAll l t ++ [csRow l (csAll l t) t t]).getD i [] = _
    by_cases hi : i < t
    · rw [← csAll_get l t i hi]
      simp [List.getD, List.getElem?_append_left (show i < (csAll l t).length by rw [csAll_length]; exact hi)]
    · have : i = t := by omega
      subst this
      have hl := csAll_length l i
      simp [List.getD, hl]
theorem causal (l : List Ev) : ∀ i, i < l.length → ∀ m, ((csAll l l.length).getD i []).getD m false = true ↔ Cz (csDir l) i m := by
  intro i
  induction i using Nat.strongRecOn with
  | _ i ih =>
    intro hi m
    rw [csAll_get l _ i hi, csRow_get l _ i i (by omega), Cz_iff]
    have hd : ∀ d, d < i → (((csAll l i).getD d []).getD m false = true ↔ Cz (csDir l) d m) := fun d hd => by
      rw [csAll_get l i d hd, ← csAll_get l l.length d (by omega)]
      exact ih d hd (by omega) m
    constructor
    · rintro ⟨d, h1, h2, h3⟩
      refine ⟨d, h1, h2, ?_⟩
      rcases h3 with h3 | ⟨h3, h4⟩
      · exact .inl h3
      · exact .inr ((hd d h1).1 h4)
    · rintro ⟨d, h1, h2, h3⟩
      refine ⟨d, h1, h2, ?_⟩
      rcases h3 with h3 | h3
      · exact .inl h3
      · exact .inr ⟨h3.lt, (hd d h1).2 h3⟩

/-! ### The direct causes -/
theorem rcN_eq {l : List Ev} {i k a : Nat} (hs : (l.getD i dfEv).station = (k : Int)) (ho : (l.getD i dfEv).other = (a : Int)) : ∀ t, t ≤ l.length → rcN l i t = rcnt (l.take t) a k
  | 0, _ => by simp [rcN, rcnt]
  | t + 1, ht => by
    have ih := rcN_eq hs ho t (by omega)
    have hb : rcB l i t = isRecv a k (l.getD t dfEv) := by unfold rcB isRecv; rw [hs, ho]
    unfold rcN
    rw [take_getD (by omega), rcnt_snoc, hb, ih]
    split <;> omega
theorem csK_eq {l : List Ev} {i k a : Nat} (hi : i < l.length) (hs : (l.getD i dfEv).station = (k : Int)) (ho : (l.getD i dfEv).other = (a : Int)) (hw : (l.getD i dfEv).what = 3) :
    ∀ t, t ≤ l.length → mtB l i t = isSend a k (l.getD t dfEv) ∧ csK l i t = rcnt (l.take i) a k - scnt (l.take t) a k
  | 0, _ => ⟨by unfold mtB isSend; rw [hs, ho, hw]; rfl, by simp only [csK, rcN_eq hs ho i (by omega)]; simp [scnt]⟩
  | t + 1, ht => by
    have ih := csK_eq hi hs ho hw t (by omega)
    refine ⟨by unfold mtB isSend; rw [hs, ho, hw]; rfl, ?_⟩
    unfold csK
    rw [take_getD (by omega), scnt_snoc, ih.1, ih.2]
    split <;> omega
theorem dir_iff {l : List Ev} {i d k : Nat} (hi : i < l.length) (hd : d < i) (hs : (l.getD i dfEv).station = (k : Int)) {n : Nat} (hE : EvIs n l i k) :
    csDir l i d = true ↔ (l.getD d dfEv).station = (k : Int) ∨ ∃ a : Nat, (l.getD i dfEv).what = 3 ∧ (l.getD i dfEv).other = a ∧ isSend a k (l.getD d dfEv) = true ∧ scnt (l.take d) a k = rcnt (l.take i) a k := by
  unfold csDir
  simp only [Bool.or_eq_true, Bool.and_eq_true, beq_iff_eq]
  rw [hs]
  constructor
  · rintro (h | ⟨h1, h2⟩)
    · exact .inl h
    · rcases hE with ⟨hw, _⟩ | ⟨hw, a, j, _, _, ho, _⟩
      · exfalso
        unfold mtB at h1
        simp only [Bool.and_eq_true, beq_iff_eq] at h1
        omega
      · obtain ⟨e1, e2⟩ := csK_eq hi hs ho hw d (by omega)
        exact .inr ⟨a, hw, ho, by rw [← e1]; exact h1, by omega⟩
  · rintro (h | ⟨a, hw, ho, h1, h2⟩)
    · exact .inl h
    · obtain ⟨e1, e2⟩ := csK_eq hi hs ho hw d (by omega)
      exact .inr ⟨by rw [e1]; exact h1, by omega⟩
theorem scnt_uniq {l : List Ev} {a k d j : Nat} (hd : d < l.length) (hj : j < l.length) (h1 : isSend a k (l.getD d dfEv) = true) (h2 : isSend a k (l.getD j dfEv) = true) (h : scnt (l.take d) a k = scnt (l.take j) a k) : d = j := by
  have key : ∀ d j, d < l.length → isSend a k (l.getD d dfEv) = true → d < j → scnt (l.take d) a k < scnt (l.take j) a k := fun d j hd h1 hdj => by
    have e1 : scnt (l.take (d + 1)) a k = scnt (l.take d) a k + 1 := by rw [take_getD hd, scnt_snoc, if_pos h1]
    have e2 : l.take (d + 1) = (l.take j).take (d + 1) := by rw [List.take_take, Nat.min_eq_left (by omega)]
    have e3 : scnt (l.take (d + 1)) a k ≤ scnt (l.take j) a k := by
      rw [e2]; exact List.Sublist.countP_le (List.take_sublist _ _)
    omega
  rcases Nat.lt_trichotomy d j with h3 | h3 | h3
  · have := key d j hd h1 h3; omega
  · exact h3
  · have := key j d hj h2 h3; omega

/-! ### The causal past -/
theorem cntS_own {l : List Ev} {m s : Nat} (hm : m < l.length) (hs : (l.getD m dfEv).station = (s : Int)) : cntS l (m + 1) s = cntS l m s + 1 := by rw [cntS_succ hm, if_pos hs]
theorem Good.past {n : Nat} {l : List Ev} (h : Good n l) : ∀ i, i < l.length → ∀ m s : Nat, m < l.length → (l.getD m dfEv).station = (s : Int) → ((m = i ∨ Cz (csDir l) i m) ↔ (cntS l (m + 1) s : Int) ≤ ckN l i s) := by
  intro i
  induction i using Nat.strongRecOn with
  | _ i ih =>
    intro hi m s hm hs
    obtain ⟨k, hk, hst, hE⟩ := h.at i hi
    obtain ⟨s0, hs0n, hs0, _⟩ := h.at m hm
    have hsn : s < n := by have : s = s0 := by omega
                           omega
    obtain ⟨b1, b2⟩ := h.bound i hi
    have hown := cntS_own hm hs
    by_cases hmi : m = i
    · subst hmi
      have := b2 s hs
      exact ⟨fun _ => by omega, fun _ => .inl rfl⟩
    · by_cases hlt : m < i
      · by_cases hsk : s = k
        · subst hsk
          refine ⟨fun _ => ?_, fun _ => .inr (.one hlt ((dir_iff hi hlt hst hE).2 (.inl hs)))⟩
          have := b2 s hst
          have := cntS_le (l := l) (show m + 1 ≤ i + 1 by omega) s
          omega
        · -- another station
          have claim : ((cntS l (m + 1) s : Int) ≤ (lastC n (l.take i) k).getD s 0) ↔ ∃ d, d < i ∧ (l.getD d dfEv).station = (k : Int) ∧ Cz (csDir l) d m := by
            rcases lastC_cases n l k i (by omega) with ⟨h1, h2⟩ | ⟨p, h1, h2, h3, h4⟩
            · rw [h1]
              have hz : (List.replicate n (0 : Int)).getD s 0 = 0 := by simp [List.getD, hsn]
              rw [hz]
              exact ⟨fun h => by omega, fun ⟨d, h5, h6, _⟩ => absurd h6 (h2 d h5)⟩
            · rw [h3]
              have hip := ih p h1 (by omega) m s hm hs
              have hmp : m ≠ p := fun h => hsk (by subst h; omega)
              constructor
              · intro h5
                rcases hip.2 h5 with h6 | h6
                · exact absurd h6 hmp
                · exact ⟨p, h1, h2, h6⟩
              · rintro ⟨d, h5, h6, h7⟩
                refine hip.1 (.inr ?_)
                by_cases hdp : d = p
                · rw [← hdp]; exact h7
                · have hdp : d < p := by
                    rcases Nat.lt_trichotomy d p with h8 | h8 | h8
                    · exact h8
                    · exact absurd h8 hdp
                    · exact absurd h6 (h4 d h8 h5)
                  obtain ⟨k', hk', hst', hE'⟩ := h.at p (by omega)
                  have : k' = k := by omega
                  subst this
                  exact .more hdp ((dir_iff (by omega) hdp hst' hE').2 (.inl h6)) h7
          have hll : (lastC n (l.take i) k).length = n := (h.take i).lens.2 k
          rcases hE with ⟨hw, hc⟩ | ⟨hw, a, j, ha, hak, ho, hji, hsd, hcn, hc, _⟩
          · have hck : ckN l i s = (lastC n (l.take i) k).getD s 0 := by unfold ckN; rw [hc, tick_get (by omega), if_neg hsk]
            rw [hck, claim, Cz_iff]
            constructor
            · rintro (h1 | ⟨d, h1, h2, h3⟩)
              · exact absurd h1 hmi
              · rcases (dir_iff hi h1 hst (.inl ⟨hw, hc⟩)).1 h2 with h4 | ⟨_, h4, _⟩
                · rcases h3 with rfl | h3
                  · clear claim; omega
                  · exact ⟨d, h1, h4, h3⟩
                · omega
            · rintro ⟨d, h1, h2, h3⟩
              exact .inr ⟨d, h1, (dir_iff hi h1 hst (.inl ⟨hw, hc⟩)).2 (.inl h2), .inr h3⟩
          · have hE : EvIs n l i k := .inr ⟨hw, a, j, ha, hak, ho, hji, hsd, hcn, hc, by assumption⟩
            have hjl : (l.getD j dfEv).clock.length = n := h.lens.1 _ (getD_mem (by omega))
            have hck : ckN l i s = max ((lastC n (l.take i) k).getD s 0) (ckN l j s) := by clear claim; unfold ckN; rw [hc, joined_get (by omega) (by omega) (by omega), if_neg hsk]
            have hij := ih j hji (by omega) m s hm hs
            rw [hck, Cz_iff]
            constructor
            · rintro (h1 | ⟨d, h1, h2, h3⟩)
              · exact absurd h1 hmi
              · rcases (dir_iff hi h1 hst hE).1 h2 with h4 | ⟨a', _, h4, h5, h6⟩
                · rcases h3 with rfl | h3
                  · clear claim; omega
                  · have := claim.2 ⟨d, h1, h4, h3⟩; clear claim; omega
                · have : a' = a := by clear claim; omega
                  subst this
                  have := scnt_uniq (l := l) (by omega) (by omega) h5 hsd (by omega)
                  subst this
                  have := hij.1 h3
                  clear claim
                  omega
            · intro h1
              rcases (show (cntS l (m + 1) s : Int) ≤ (lastC n (l.take i) k).getD s 0 ∨ (cntS l (m + 1) s : Int) ≤ ckN l j s by clear claim; omega) with h2 | h2
              · obtain ⟨d, h3, h4, h5⟩ := claim.1 h2
                exact .inr ⟨d, h3, (dir_iff hi h3 hst hE).2 (.inl h4), .inr h5⟩
              · exact .inr ⟨j, hji, (dir_iff hi hji hst hE).2 (.inr ⟨a, hw, ho, hsd, hcn⟩), hij.2 h2⟩
      · constructor
        · rintro (h1 | h1)
          · exact absurd h1 hmi
          · exact absurd h1.lt hlt
        · intro h1
          have := cntS_le (l := l) (show i + 1 ≤ m by omega) s
          have := (b1 s hsn).2
          omega
theorem cntS_find {l : List Ev} {s : Nat} : ∀ t, t ≤ l.length → ∀ c, 1 ≤ c → c ≤ cntS l t s → ∃ m, m < t ∧ (l.getD m dfEv).station = (s : Int) ∧ cntS l (m + 1) s = c
  | 0, _, c, h1, h2 => by rw [cntS_zero] at h2; omega
  | t + 1, ht, c, h1, h2 => by
    by_cases h3 : c ≤ cntS l t s
    · obtain ⟨m, h4, h5⟩ := cntS_find t (by omega) c h1 h3
      exact ⟨m, by omega, h5⟩
    · have h4 := cntS_succ (l := l) (t := t) (by omega) s
      by_cases h5 : (l.getD t dfEv).station = (s : Int)
      · rw [if_pos h5] at h4
        exact ⟨t, by omega, h5, by omega⟩
      · rw [if_neg h5] at h4; omega
theorem Good.before {n : Nat} {l : List Ev} (h : Good n l) {i k : Nat} (hi : i < l.length) (hk : k < l.length) :
    bfB (l.getD k dfEv).clock (l.getD i dfEv).clock = ((csAll l l.length).getD i []).getD k false := by
  have hlk : (l.getD k dfEv).clock.length = n := h.lens.1 _ (getD_mem hk)
  have hli : (l.getD i dfEv).clock.length = n := h.lens.1 _ (getD_mem hi)
  obtain ⟨s, hs, hst, _⟩ := h.at k hk
  obtain ⟨s2, hs2, hst2, _⟩ := h.at i hi
  have hbf : bfB (l.getD k dfEv).clock (l.getD i dfEv).clock = true ↔ (l.getD k dfEv).clock ≠ (l.getD i dfEv).clock ∧ ∀ s, s < n → ckN l k s ≤ ckN l i s := by
    unfold bfB
    rw [hlk, hli]
    simp only [decide_true, Bool.true_and, Bool.and_eq_true, Bool.not_eq_true', decide_eq_false_iff_not, List.all_eq_true, List.mem_range, decide_eq_true_eq]
    rfl
  rw [Bool.eq_iff_iff, hbf, causal l i hi k]
  constructor
  · rintro ⟨h1, h2⟩
    have h3 := (h.bound k hk).2 s hst
    have h4 := h2 s hs
    rcases (h.past i hi k s hk hst).2 (by omega) with h5 | h5
    · exact absurd (by rw [h5]) h1
    · exact h5
  · intro h1
    refine ⟨fun he => ?_, fun t ht => ?_⟩
    · have h2 := (h.bound i hi).2 s2 hst2
      have h3 : ckN l k s2 = ckN l i s2 := by unfold ckN; rw [he]
      have hlt := h1.lt
      rcases (h.past k hk i s2 hi hst2).2 (by omega) with h5 | h5
      · omega
      · have := h5.lt; omega
    · obtain ⟨b1, b2⟩ := (h.bound k hk).1 t ht
      by_cases hz : ckN l k t = 0
      · rw [hz]; exact ((h.bound i hi).1 t ht).1
      · obtain ⟨c, hc⟩ := Int.eq_ofNat_of_zero_le b1
        obtain ⟨m, h2, h3, h4⟩ := cntS_find (l := l) (s := t) (k + 1) (by omega) c (by omega) (by omega)
        have hm : m < l.length := by omega
        have h5 := (h.past k hk m t hm h3).2 (by omega)
        have h6 : Cz (csDir l) i m := by
          rcases h5 with h5 | h5
          · rw [h5]; exact h1
          · exact h1.trans h5
        have := (h.past i hi m t hm h3).1 (.inr h6)
        omega
end Go.Proofs.Ytnkgfgkgepadhaa
