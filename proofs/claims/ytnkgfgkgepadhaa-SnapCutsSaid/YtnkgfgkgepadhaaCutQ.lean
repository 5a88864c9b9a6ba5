/-
  Plain: the history of events and the reference's mates say the same, of all lists of events. Plain: cuts that hold are those that the history allows; those that are reached are all of them; how many there are.
-/
import Derived.Test.YtnkgfgkgepadhaaCutW5
import Derived.Test.YtnkgfgkgepadhaaBfs
import Derived.Test.YtnkgfgkgepadhaaCutW6
namespace Go.Proofs.Ytnkgfgkgepadhaa
set_option linter.unusedVariables false
set_option linter.unusedSimpArgs false

/-! ### Mates -/
theorem smB_eq {l : List Ev} {i k a : Nat} (hs : (l.getD i dfEv).station = (k : Int)) (ho : (l.getD i dfEv).other = (a : Int)) (j : Nat) : smB l i j = isSend a k (l.getD j dfEv) := by unfold smB isSend; rw [hs, ho]
theorem mtK_eq {l : List Ev} {i k a : Nat} (hi : i < l.length) (hs : (l.getD i dfEv).station = (k : Int)) (ho : (l.getD i dfEv).other = (a : Int)) : ∀ t, t ≤ l.length → mtK l i t = rcnt (l.take i) a k - scnt (l.take t) a k
  | 0, _ => by simp only [mtK, rcN_eq hs ho i (by omega)]; simp [scnt]
  | t + 1, ht => by
    have ih := mtK_eq hi hs ho t (by omega)
    unfold mtK
    rw [take_getD (by omega), scnt_snoc, smB_eq hs ho, ih]
    split <;> omega
/-- The sends on a channel among the first t events. -/
def sIdx (l : List Ev) (t a b : Nat) : List Nat := (List.range t).filter fun j => isSend a b (l.getD j dfEv)
theorem sIdx_succ (l : List Ev) (t a b : Nat) : sIdx l (t + 1) a b = sIdx l t a b ++ if isSend a b (l.getD t dfEv) = true then [t] else [] := by
  unfold sIdx
  rw [List.range_succ, List.filter_append, List.filter_cons, List.filter_nil]
theorem sIdx_len (l : List Ev) (a b : Nat) : ∀ t, t ≤ l.length → (sIdx l t a b).length = scnt (l.take t) a b
  | 0, _ => by simp [sIdx, scnt]
  | t + 1, ht => by
    rw [sIdx_succ, List.length_append, sIdx_len l a b t (by omega), take_getD (by omega), scnt_snoc]
    cases h : isSend a b (l.getD t dfEv) <;> simp
theorem sIdx_at (l : List Ev) (a b : Nat) : ∀ t, t ≤ l.length → ∀ q j, (sIdx l t a b)[q]? = some j → j < t ∧ isSend a b (l.getD j dfEv) = true ∧ scnt (l.take j) a b = q
  | 0, _, q, j, h => by simp [sIdx] at h
  | t + 1, ht, q, j, h => by
    rw [sIdx_succ] at h
    have hl := sIdx_len l a b t (by omega)
    by_cases hq : q < (sIdx l t a b).length
    · rw [List.getElem?_append_left hq] at h
      obtain ⟨h1, h2, h3⟩ := sIdx_at l a b t (by omega) q j h
      exact ⟨by omega, h2, h3⟩
    · rw [List.getElem?_append_right (by omega)] at h
      cases hs : isSend a b (l.getD t dfEv) with
      | false => rw [hs] at h; simp at h
      | true =>
        rw [hs] at h
        simp only [if_true] at h
        have h0 : q - (sIdx l t a b).length = 0 := by
          rcases Nat.eq_zero_or_pos (q - (sIdx l t a b).length) with h' | h'
          · exact h'
          · rw [List.getElem?_eq_none (by simp; omega)] at h; cases h
        rw [h0] at h
        simp only [List.getElem?_cons_zero, Option.some.injEq] at h
        subst h
        exact ⟨by omega, hs, by omega⟩
/-- The mate of a receipt: the send whose number is that of the receipt. -/
theorem mate_some {l : List Ev} {i k a j : Nat} (hi : i < l.length) (hs : (l.getD i dfEv).station = (k : Int)) (ho : (l.getD i dfEv).other = (a : Int)) (hj : (sIdx l i a k)[rcnt (l.take i) a k]? = some j) : mateI l i = j := by
  obtain ⟨h1, h2, h3⟩ := sIdx_at l a k i (by omega) _ _ hj
  refine mateI_hit h1 ?_ fun q hq => ?_
  · unfold mateP
    rw [smB_eq hs ho, h2, mtK_eq hi hs ho j (by omega), h3]; simp
  · cases hc : mateP l i q with
    | false => rfl
    | true =>
      exfalso
      unfold mateP at hc
      rw [smB_eq hs ho, mtK_eq hi hs ho q (by omega)] at hc
      simp only [Bool.and_eq_true, beq_iff_eq] at hc
      have := scnt_uniq (l := l) (a := a) (k := k) (d := q) (j := j) (by omega) (by omega) hc.1 h2 (by omega)
      omega
theorem mate_none' {l : List Ev} {i k a : Nat} (hi : i < l.length) (hs : (l.getD i dfEv).station = (k : Int)) (ho : (l.getD i dfEv).other = (a : Int)) (hle : scnt (l.take i) a k ≤ rcnt (l.take i) a k) : mateI l i = -1 := by
  refine mateI_none fun q hq => ?_
  cases hc : mateP l i q with
  | false => rfl
  | true =>
    exfalso
    unfold mateP at hc
    rw [smB_eq hs ho, mtK_eq hi hs ho q (by omega)] at hc
    simp only [Bool.and_eq_true, beq_iff_eq] at hc
    have e1 : scnt (l.take (q + 1)) a k = scnt (l.take q) a k + 1 := by rw [take_getD (by omega), scnt_snoc, if_pos hc.1]
    have e2 : l.take (q + 1) = (l.take i).take (q + 1) := by rw [List.take_take, Nat.min_eq_left (by omega)]
    have e3 : scnt (l.take (q + 1)) a k ≤ scnt (l.take i) a k := by
      rw [e2]; exact List.Sublist.countP_le (List.take_sublist _ _)
    omega

/-! ### The history of the first t events -/
/-- What event i needs. -/
def needOf (l : List Ev) (i : Nat) : Int × Int := if (l.getD i dfEv).what = 3 then ((l.getD i dfEv).other, cntS l (mateI l i).toNat (l.getD i dfEv).other.toNat + 1) else (0, 0)
structure HG (n : Nat) (l : List Ev) (t : Nat) (h : Hist) : Prop where
  len : h.needs.length = n
  row : ∀ s, s < n → (h.needs.getD s []).length = cntS l t s
  need : ∀ i k : Nat, i < t → (l.getD i dfEv).station = (k : Int) → (h.needs.getD k [])[cntS l i k]? = some (needOf l i)
  sent : ∀ a b : Nat, a < n → b < n → sGet h.sent ((a : Int), (b : Int)) = ((sIdx l t a b).drop (rcnt (l.take t) a b)).map fun j => (cntS l j a : Int) + 1
  le : ∀ a b : Nat, a < n → b < n → rcnt (l.take t) a b ≤ scnt (l.take t) a b
theorem HG.zero (n : Nat) (l : List Ev) : HG n l 0 (Hist.zero n) :=
  ⟨by simp [Hist.zero], fun s hs => by simp [Hist.zero, List.getD, hs, cntS], fun i k hi => by omega, fun a b _ _ => by simp [Hist.zero, sGet, sIdx], fun a b _ _ => by simp [rcnt, scnt]⟩
/-- A need more for the next event. -/
theorem HG.more {n : Nat} {l : List Ev} {t k : Nat} {h : Hist} (g : HG n l t h) (ht : t < l.length) (hk : k < n) (hs : (l.getD t dfEv).station = (k : Int)) {x : Int × Int} (hx : x = needOf l t) :
    (h.add k x).length = n ∧ (∀ s, s < n → ((h.add k x).getD s []).length = cntS l (t + 1) s) ∧ (∀ i q : Nat, i < t + 1 → (l.getD i dfEv).station = (q : Int) → ((h.add k x).getD q [])[cntS l i q]? = some (needOf l i)) := by
  have hg : ∀ q, (h.add k x).getD q [] = if q = k then h.needs.getD k [] ++ [x] else h.needs.getD q [] := fun q => by
    unfold Hist.add
    rw [Int.toNat_natCast, getD_set, g.len]
    by_cases hq : q = k
    · subst hq; rw [if_pos ⟨rfl, hk⟩, if_pos rfl]
    · rw [if_neg (fun h => hq h.1.symm), if_neg hq]
  refine ⟨by unfold Hist.add; rw [List.length_set]; exact g.len, fun s hsn => ?_, fun i q hi hq => ?_⟩
  · rw [hg, cntS_succ ht, hs]
    by_cases h1 : s = k
    · subst h1; rw [if_pos rfl, if_pos rfl, List.length_append, g.row s hsn]; rfl
    · rw [if_neg h1, if_neg (by omega), g.row s hsn]; rfl
  · rw [hg]
    by_cases hit : i = t
    · subst hit
      have hqk : q = k := by omega
      subst hqk
      rw [if_pos rfl, List.getElem?_append_right (by rw [g.row q hk]; omega), g.row q hk, Nat.sub_self, hx]; rfl
    · have h1 := g.need i q (by omega) hq
      split
      · rename_i h2
        subst h2
        rw [List.getElem?_append_left (List.getElem?_eq_some_iff.1 h1).1]; exact h1
      · exact h1
theorem HG.step {n : Nat} {l : List Ev} {t : Nat} {h : Hist} (g : HG n l t h) (ht : t < l.length) : (evOkI n l t = true ∧ ∃ h', h.step n (l.getD t dfEv) = some h' ∧ HG n l (t + 1) h') ∨ (evOkI n l t = false ∧ h.step n (l.getD t dfEv) = none) := by
  by_cases hb : evBad n (l.getD t dfEv)
  · exact .inr ⟨by unfold evOkI; rw [decide_eq_true hb]; rfl, by unfold Hist.step; rw [if_pos hb]⟩
  · have hb' := hb
    unfold evBad at hb'
    obtain ⟨k, hs⟩ : ∃ k : Nat, (l.getD t dfEv).station = k := ⟨(l.getD t dfEv).station.toNat, by omega⟩
    obtain ⟨a, ho⟩ : ∃ a : Nat, (l.getD t dfEv).other = a := ⟨(l.getD t dfEv).other.toNat, by omega⟩
    have hk : k < n := by omega
    have ha : a < n := by omega
    have htk := take_getD (l := l) (i := t) ht
    have hscnt : ∀ c d, scnt (l.take (t + 1)) c d = scnt (l.take t) c d + if isSend c d (l.getD t dfEv) = true then 1 else 0 := fun c d => by rw [htk, scnt_snoc]
    have hrcnt : ∀ c d, rcnt (l.take (t + 1)) c d = rcnt (l.take t) c d + if isRecv c d (l.getD t dfEv) = true then 1 else 0 := fun c d => by rw [htk, rcnt_snoc]
    have hslen : ∀ c d, (sIdx l t c d).length = scnt (l.take t) c d := fun c d => sIdx_len l c d t (by omega)
    by_cases hw2 : (l.getD t dfEv).what = 2
    · have hR : ∀ c d, isRecv c d (l.getD t dfEv) = false := fun c d => by unfold isRecv; rw [hw2]; rfl
      have hSd : ∀ c d : Nat, isSend c d (l.getD t dfEv) = true ↔ (c = k ∧ d = a) := fun c d => by
        unfold isSend; rw [hw2, hs, ho]; simp only [beq_self_eq_true, Bool.true_and, Bool.and_eq_true, beq_iff_eq]; omega
      obtain ⟨m1, m2, m3⟩ := g.more ht hk hs (x := (0, 0)) (by unfold needOf; rw [if_neg (by omega)])
      refine .inl ⟨by unfold evOkI; rw [decide_eq_false hb, hw2]; rfl, ⟨h.add k (0, 0), sPut h.sent ((k : Int), (a : Int)) (sGet h.sent ((k : Int), (a : Int)) ++ [((h.needs.getD k []).length : Int) + 1])⟩, ?_, m1, m2, m3, fun c d hc hd => ?_, fun c d hc hd => ?_⟩
      · unfold Hist.step; rw [if_neg hb, if_pos hw2, hs, ho, Int.toNat_natCast]
      · rw [sGet_sPut, hrcnt, hR, if_neg (c := false = true) (by decide), Nat.add_zero, sIdx_succ]
        by_cases hcd : c = k ∧ d = a
        · obtain ⟨rfl, rfl⟩ := hcd
          rw [if_pos rfl, if_pos ((hSd c d).2 ⟨rfl, rfl⟩), List.drop_append_of_le_length (by rw [hslen]; exact g.le c d hc hd), List.map_append, g.sent c d hc hd, g.row c hc]
          rfl
        · rw [if_neg (fun h => hcd ⟨by have := congrArg Prod.fst h; simp only at this; omega, by have := congrArg Prod.snd h; simp only at this; omega⟩), if_neg (fun h => hcd ((hSd c d).1 h)), List.append_nil]
          exact g.sent c d hc hd
      · rw [hrcnt, hscnt, hR, if_neg (c := false = true) (by decide)]
        have := g.le c d hc hd
        omega
    · have hSd : ∀ c d : Nat, isSend c d (l.getD t dfEv) = false := fun c d => by
        unfold isSend; rw [show ((l.getD t dfEv).what == 2) = false from beq_false_of_ne hw2]; rfl
      by_cases hw3 : (l.getD t dfEv).what = 3
      · have hRv : ∀ c d : Nat, isRecv c d (l.getD t dfEv) = true ↔ (c = a ∧ d = k) := fun c d => by
          unfold isRecv; rw [hw3, hs, ho]; simp only [beq_self_eq_true, Bool.true_and, Bool.and_eq_true, beq_iff_eq]; omega
        have hsg := g.sent a k ha hk
        by_cases hlt : rcnt (l.take t) a k < scnt (l.take t) a k
        · obtain ⟨j, hj⟩ : ∃ j, (sIdx l t a k)[rcnt (l.take t) a k]? = some j := ⟨_, List.getElem?_eq_getElem (by rw [hslen]; exact hlt)⟩
          have hm := mate_some ht hs ho hj
          have hdrop : (sIdx l t a k).drop (rcnt (l.take t) a k) = j :: (sIdx l t a k).drop (rcnt (l.take t) a k + 1) := by
            obtain ⟨h1, h2⟩ := List.getElem?_eq_some_iff.1 hj
            rw [List.drop_eq_getElem_cons h1, h2]
          rw [hdrop, List.map_cons] at hsg
          obtain ⟨m1, m2, m3⟩ := g.more ht hk hs (x := ((a : Int), (cntS l j a : Int) + 1)) (by unfold needOf; rw [if_pos hw3, hm, ho, Int.toNat_natCast, Int.toNat_natCast])
          refine .inl ⟨by unfold evOkI; rw [decide_eq_false hb, hm, decide_eq_false (by omega), Bool.and_false]; rfl, ⟨h.add k ((a : Int), (cntS l j a : Int) + 1), sPut h.sent ((a : Int), (k : Int)) (((sIdx l t a k).drop (rcnt (l.take t) a k + 1)).map fun j => (cntS l j a : Int) + 1)⟩, ?_, m1, m2, m3, fun c d hc hd => ?_, fun c d hc hd => ?_⟩
          · unfold Hist.step; rw [if_neg hb, if_neg hw2, if_pos hw3, hs, ho, hsg]
          · rw [sGet_sPut, hrcnt, sIdx_succ, hSd, if_neg (c := false = true) (by decide), List.append_nil]
            by_cases hcd : c = a ∧ d = k
            · obtain ⟨rfl, rfl⟩ := hcd
              rw [if_pos rfl, if_pos ((hRv c d).2 ⟨rfl, rfl⟩)]
            · rw [if_neg (fun h => hcd ⟨by have := congrArg Prod.fst h; simp only at this; omega, by have := congrArg Prod.snd h; simp only at this; omega⟩), if_neg (fun h => hcd ((hRv c d).1 h)), Nat.add_zero]
              exact g.sent c d hc hd
          · rw [hrcnt, hscnt, hSd, if_neg (c := false = true) (by decide)]
            have := g.le c d hc hd
            split
            · rename_i h1
              obtain ⟨rfl, rfl⟩ := (hRv c d).1 h1
              omega
            · omega
        · have hm := mate_none' ht hs ho (by omega)
          rw [List.drop_of_length_le (by rw [hslen]; omega), List.map_nil] at hsg
          refine .inr ⟨by unfold evOkI; rw [hw3, hm]; simp, ?_⟩
          unfold Hist.step; rw [if_neg hb, if_neg hw2, if_pos hw3, hs, ho, hsg]
      · have hR : ∀ c d, isRecv c d (l.getD t dfEv) = false := fun c d => by
          unfold isRecv; rw [show ((l.getD t dfEv).what == 3) = false from beq_false_of_ne hw3]; rfl
        obtain ⟨m1, m2, m3⟩ := g.more ht hk hs (x := (0, 0)) (by unfold needOf; rw [if_neg hw3])
        refine .inl ⟨by unfold evOkI; rw [decide_eq_false hb, show ((l.getD t dfEv).what == 3) = false from beq_false_of_ne hw3]; rfl, ⟨h.add k (0, 0), h.sent⟩, ?_, m1, m2, m3, fun c d hc hd => ?_, fun c d hc hd => ?_⟩
        · unfold Hist.step; rw [if_neg hb, if_neg hw2, if_neg hw3, hs]
        · rw [hrcnt, hR, if_neg (c := false = true) (by decide), Nat.add_zero, sIdx_succ, hSd, if_neg (c := false = true) (by decide), List.append_nil]
          exact g.sent c d hc hd
        · rw [hrcnt, hscnt, hR, hSd]
          exact g.le c d hc hd
theorem hist_run (n : Nat) (l : List Ev) : ∀ t, t ≤ l.length → ((List.range t).all (evOkI n l) = true ∧ ∃ h, Hist.run n (Hist.zero n) (l.take t) = some h ∧ HG n l t h) ∨ ((List.range t).all (evOkI n l) = false ∧ Hist.run n (Hist.zero n) (l.take t) = none)
  | 0, _ => .inl ⟨rfl, _, by simp [Hist.run], HG.zero n l⟩
  | t + 1, ht => by
    rw [take_getD (by omega), Hist.run_snoc, all_range_succ]
    rcases hist_run n l t (by omega) with ⟨h1, h, h2, g⟩ | ⟨h1, h2⟩
    · rw [h1, h2]
      rcases g.step (by omega) with ⟨h3, h', h4, g'⟩ | ⟨h3, h4⟩
      · exact .inl ⟨by rw [h3]; rfl, h', h4, g'⟩
      · exact .inr ⟨by rw [h3]; rfl, h4⟩
    · rw [h1, h2]; exact .inr ⟨rfl, rfl⟩
/-- The errors are the same. -/
theorem rec_ev (n : Int) (l : List Ev) : recErr n l = evErr n l := by
  unfold recErr evErr
  by_cases h : n < 2 ∨ 5 < n
  · rw [if_pos h, if_pos h]
  · rw [if_neg h, if_neg h]
    split
    · rfl
    · obtain ⟨k, rfl⟩ : ∃ k : Nat, n = k := ⟨n.toNat, by omega⟩
      rw [Int.toNat_natCast]
      have := hist_run k l l.length (Nat.le_refl _)
      rw [List.take_length] at this
      rcases this with ⟨h1, h, h2, _⟩ | ⟨h1, h2⟩
      · rw [h1, h2]; rfl
      · rw [h1, h2]; rfl
theorem hist_of {n : Nat} {l : List Ev} (he : evErr n l = 0) : ∃ h, Hist.run n (Hist.zero n) l = some h ∧ HG n l l.length h := by
  have := hist_run n l l.length (Nat.le_refl _)
  rw [List.take_length] at this
  rcases this with ⟨h1, h, h2, g⟩ | ⟨h1, h2⟩
  · exact ⟨h, h2, g⟩
  · rw [← rec_ev] at he
    unfold recErr at he
    rw [Int.toNat_natCast, h2] at he
    split at he
    · cases he
    · split at he <;> cases he
end Go.Proofs.Ytnkgfgkgepadhaa

namespace Go.Proofs.Ytnkgfgkgepadhaa
set_option linter.unusedVariables false
set_option linter.unusedSimpArgs false

/-- What is known of events that may be. -/
structure EvsMay (n : Nat) (l : List Ev) : Prop where
  n2 : 2 ≤ n
  n5 : n ≤ 5
  len : l.length ≤ 60
  st : ∀ i, i < l.length → ∃ k : Nat, k < n ∧ (l.getD i dfEv).station = (k : Int)
  mate : ∀ i, i < l.length → (l.getD i dfEv).what = 3 → ∃ m a : Nat, mateI l i = m ∧ m < i ∧ a < n ∧ (l.getD i dfEv).other = (a : Int) ∧ (l.getD m dfEv).station = (a : Int)
theorem may_of {n : Nat} {l : List Ev} (he : evErr n l = 0) : EvsMay n l := by
  obtain ⟨h1, h2, h3, h4⟩ := evErr_ok he
  refine ⟨by omega, by omega, h3, ok_st h4, fun i hi hw => ?_⟩
  obtain ⟨h5, h6⟩ := h4 i hi
  obtain ⟨m, hm, hmi, hp⟩ := mateI_lt (h6 hw)
  unfold evBad at h5
  refine ⟨m, (l.getD i dfEv).other.toNat, hm, hmi, by omega, by omega, ?_⟩
  unfold mateP smB at hp
  simp only [Bool.and_eq_true, beq_iff_eq] at hp
  have := hp.1.2.1
  omega
theorem need3 {n : Nat} {l : List Ev} {i m a : Nat} (hw : (l.getD i dfEv).what = 3) (hm : mateI l i = m) (ho : (l.getD i dfEv).other = (a : Int)) : needOf l i = ((a : Int), (cntS l m a : Int) + 1) := by
  unfold needOf; rw [if_pos hw, hm, ho, Int.toNat_natCast, Int.toNat_natCast]
theorem need0 {l : List Ev} {i : Nat} (hw : (l.getD i dfEv).what ≠ 3) : needOf l i = (0, 0) := by unfold needOf; rw [if_neg hw]
/-- A cut by the events. -/
theorem cutOk_ev {n : Nat} {l : List Ev} (hv : EvsMay n l) {h : Hist} (g : HG n l l.length h) (cut : List Int) : cutOk h.needs cut = true ↔ (∀ s, s < n → 0 ≤ cut.getD s 0 ∧ cut.getD s 0 ≤ cntS l l.length s) ∧ ∀ i k : Nat, i < l.length → (l.getD i dfEv).station = (k : Int) → (cntS l i k : Int) < cut.getD k 0 → (needOf l i).2 ≤ cut.getD (needOf l i).1.toNat 0 := by
  rw [cutOk_iff g.len]
  constructor
  · intro H
    refine ⟨fun s hs => by obtain ⟨h1, h2, _⟩ := H s hs; rw [g.row s hs] at h2; exact ⟨h1, h2⟩, fun i k hi hk hc => ?_⟩
    obtain ⟨k', hk', hkk⟩ := hv.st i hi
    obtain rfl : k = k' := by omega
    exact (H k hk').2.2 (cntS l i k) hc _ (g.need i k hi hk)
  · rintro ⟨H1, H2⟩ s hs
    obtain ⟨h1, h2⟩ := H1 s hs
    refine ⟨h1, by rw [g.row s hs]; exact h2, fun o ho x hx => ?_⟩
    obtain ⟨i, hi, hsi, hc⟩ := cntS_find (l := l) (s := s) l.length (Nat.le_refl _) (o + 1) (by omega) (by omega)
    have hc' := cntS_own hi hsi
    have hn := g.need i s hi hsi
    rw [show cntS l i s = o by omega, hx] at hn
    injection hn with hn
    subst hn
    exact H2 i s hi hsi (by omega)
theorem cutOk_holds {n : Nat} {l : List Ev} (hv : EvsMay n l) {h : Hist} (g : HG n l l.length h) (cut : List Int) : cutOk h.needs cut = holdsB n l cut := by
  rw [Bool.eq_iff_iff, cutOk_ev hv g]
  unfold holdsB hlRow hlEv
  simp only [Bool.and_eq_true, List.all_eq_true, List.mem_range, decide_eq_true_eq, Bool.not_eq_true', Bool.and_eq_false_iff, decide_eq_false_iff_not]
  refine and_congr_right fun H1 => ?_
  constructor
  · intro H i hi
    by_cases hw : (l.getD i dfEv).what = 3
    · obtain ⟨k, hk, hs⟩ := hv.st i hi
      obtain ⟨m, a, hm, hmi, ha, ho, hsm⟩ := hv.mate i hi hw
      have := H i k hi hs
      rw [need3 (n := n) hw hm ho, Int.toNat_natCast] at this
      have e1 : stN l i = k := by unfold stN; rw [hs, Int.toNat_natCast]
      have e2 : stN l m = a := by unfold stN; rw [hsm, Int.toNat_natCast]
      rw [hm, Int.toNat_natCast, e1, e2]
      by_cases hin : (cntS l i k : Int) < cut.getD k 0
      · exact .inr (.inr (by have := this hin; simp only at this; omega))
      · exact .inr (.inl hin)
    · exact .inl (beq_false_of_ne hw)
  · intro H i k hi hs hin
    by_cases hw : (l.getD i dfEv).what = 3
    · obtain ⟨m, a, hm, hmi, ha, ho, hsm⟩ := hv.mate i hi hw
      rw [need3 (n := n) hw hm ho, Int.toNat_natCast]
      have e1 : stN l i = k := by unfold stN; rw [hs, Int.toNat_natCast]
      have e2 : stN l m = a := by unfold stN; rw [hsm, Int.toNat_natCast]
      have := H i hi
      rw [hm, Int.toNat_natCast, e1, e2] at this
      rcases this with h1 | h1 | h1
      · rw [hw] at h1; cases h1
      · exact absurd hin h1
      · simp only; omega
    · rw [need0 hw]
      exact (H1 0 (by have := hv.n2; omega)).1
theorem con_same {n : Int} {l : List Ev} (cut : List Int) : conR n l cut = rcon n l cut := by
  unfold conR rcon
  rw [rec_ev]
  by_cases he : evErr n l = 0
  · rw [if_neg (c := evErr n l ≠ 0) (by rw [he]; decide), if_neg (c := evErr n l ≠ 0) (by rw [he]; decide)]
    by_cases hcl : (cut.length : Int) ≠ n
    · rw [if_pos hcl, if_pos hcl]
    · rw [if_neg hcl, if_neg hcl]
      obtain ⟨h2, _⟩ := evErr_ok he
      obtain ⟨k, rfl⟩ : ∃ k : Nat, n = k := ⟨n.toNat, by omega⟩
      obtain ⟨h, hr, g⟩ := hist_of he
      rw [Int.toNat_natCast, hr]
      simp only
      rw [cutOk_holds (may_of he) g]
  · rw [if_pos he, if_pos he]

theorem ext_getD {a b : List Int} (hl : a.length = b.length) (h : ∀ i, i < a.length → a.getD i 0 = b.getD i 0) : a = b := by
  refine List.ext_getElem hl fun i h1 h2 => ?_
  have h3 := h i h1
  simp only [List.getD, List.getElem?_eq_getElem h1, List.getElem?_eq_getElem h2, Option.getD_some] at h3
  exact h3
/-! ### All places that are reached -/
theorem getD_pl0 (s : Nat) : place0.getD s 0 = 0 := by
  unfold place0
  match s with
  | 0 => rfl
  | 1 => rfl
  | 2 => rfl
  | 3 => rfl
  | 4 => rfl
  | s + 5 => rfl
/-- A place that is reached is a cut that the history allows, 0 behind the stations. -/
theorem reach_ok {n : Nat} {needs : List (List (Int × Int))} (hl : needs.length = n) (n5 : n ≤ 5) (hr : ∀ r ∈ needs, ∀ x ∈ r, 0 ≤ x.1 ∧ x.1 < n) {x : List Int} (h : Reach n needs x) : cutOk needs x = true ∧ ∀ s, n ≤ s → x.getD s 0 = 0 := by
  induction h with
  | zero => exact ⟨(cutOk_iff hl _).2 fun s hs => ⟨by rw [getD_pl0]; omega, by rw [getD_pl0]; omega, fun o ho => by rw [getD_pl0] at ho; omega⟩, fun s _ => getD_pl0 s⟩
  | @step x s hx hs hm ih =>
    have hlen := hx.len
    have hget := bump_get (x := x) (s := s) (by omega)
    refine ⟨(cutOk_iff hl _).2 fun t ht => ?_, fun t ht => ?_⟩
    · obtain ⟨i1, i2, i3⟩ := (cutOk_iff hl _).1 ih.1 t ht
      have hmono : ∀ q, x.getD q 0 ≤ (bump x s).getD q 0 := fun q => by
        rw [hget]; split
        · rename_i h; subst h; omega
        · omega
      simp only [mayGo, Bool.and_eq_true, decide_eq_true_eq] at hm
      rw [hget]
      by_cases hts : t = s
      · subst hts
        rw [if_pos rfl]
        refine ⟨by omega, hm.1, fun o ho y hy => ?_⟩
        by_cases hlt : (o : Int) < x.getD t 0
        · exact Int.le_trans (i3 o hlt y hy) (hmono _)
        · have hoe : (x.getD t 0).toNat = o := by omega
          have : needAt needs x t = y := by unfold needAt; rw [hoe]; simp only [List.getD] at hy ⊢; rw [hy]; rfl
          rw [this] at hm
          exact hm.2
      · rw [if_neg hts]
        exact ⟨i1, i2, fun o ho y hy => Int.le_trans (i3 o ho y hy) (hmono _)⟩
    · rw [hget, if_neg (by omega)]; exact ih.2 t ht
/-- The part of a cut among the first t events. -/
def part (n : Nat) (l : List Ev) (x : List Int) (t : Nat) : List Int := (List.range 5).map fun s => if s < n then min (cntS l t s : Int) (x.getD s 0) else 0
theorem part_len (n : Nat) (l : List Ev) (x : List Int) (t : Nat) : (part n l x t).length = 5 := by simp [part]
theorem part_get {n : Nat} {l : List Ev} {x : List Int} {t s : Nat} (n5 : n ≤ 5) (hs : s < n) : (part n l x t).getD s 0 = min (cntS l t s : Int) (x.getD s 0) := by
  have h5 : s < 5 := by omega
  simp [part, List.getD, h5, hs]
theorem part_zero {n : Nat} {l : List Ev} {x : List Int} (h : ∀ s, s < n → 0 ≤ x.getD s 0) : part n l x 0 = place0 := by
  unfold part
  have : ∀ s, (if s < n then min (cntS l 0 s : Int) (x.getD s 0) else 0) = 0 := fun s => by
    split
    · rename_i hs; have := h s hs; rw [cntS_zero]; omega
    · rfl
  simp only [this]
  rfl
theorem ok_reach {n : Nat} {l : List Ev} (hv : EvsMay n l) {h : Hist} (g : HG n l l.length h) {x : List Int} (hok : cutOk h.needs x = true) : ∀ t, t ≤ l.length → Reach n h.needs (part n l x t)
  | 0, _ => by
    rw [part_zero fun s hs => (((cutOk_ev hv g x).1 hok).1 s hs).1]
    exact .zero
  | t + 1, ht => by
    have ih := ok_reach hv g hok t (by omega)
    obtain ⟨H1, H2⟩ := (cutOk_ev hv g x).1 hok
    have n5 := hv.n5
    obtain ⟨k, hk, hs⟩ := hv.st t (by omega)
    have hsucc : ∀ s, cntS l (t + 1) s = cntS l t s + if s = k then 1 else 0 := fun s => by
      rw [cntS_succ (by omega), hs]
      by_cases h1 : s = k
      · rw [if_pos h1, if_pos (by omega)]
      · rw [if_neg h1, if_neg (by omega)]
    by_cases hin : (cntS l t k : Int) < x.getD k 0
    · have e : part n l x (t + 1) = bump (part n l x t) k := by
        refine ext_getD (by rw [part_len]; unfold bump; rw [List.length_set, part_len]) fun i h1 => ?_
        have h5 : i < 5 := by rw [part_len] at h1; exact h1
        rw [bump_get (x := part n l x t) (s := k) (by rw [part_len]; omega) i]
        by_cases hin2 : i < n
        · rw [part_get n5 hin2, hsucc]
          by_cases hik : i = k
          · subst hik
            rw [if_pos rfl, if_pos rfl, part_get n5 hin2]; omega
          · rw [if_neg hik, if_neg hik, part_get n5 hin2]; rfl
        · have hz : ∀ q, (part n l x q).getD i 0 = 0 := fun q => by simp [part, List.getD, h5, hin2]
          rw [hz, if_neg (by omega), hz]
      rw [e]
      refine .step ih hk ?_
      have hck : (part n l x t).getD k 0 = cntS l t k := by rw [part_get n5 hk]; omega
      have hneed : needAt h.needs (part n l x t) k = needOf l t := by
        unfold needAt
        rw [hck, Int.toNat_natCast]
        have := g.need t k (by omega) hs
        simp only [List.getD] at this ⊢
        rw [this]; rfl
      unfold mayGo
      rw [hneed, hck, g.row k hk]
      have hx := H2 t k (by omega) hs hin
      have hk1 := (H1 k hk).2
      simp only [Bool.and_eq_true, decide_eq_true_eq]
      refine ⟨by omega, ?_⟩
      rw [bump_get (by rw [part_len]; omega)]
      by_cases hw : (l.getD t dfEv).what = 3
      · obtain ⟨m, a, hm, hmi, ha, ho, hsm⟩ := hv.mate t (by omega) hw
        rw [need3 (n := n) hw hm ho] at hx ⊢
        simp only [Int.toNat_natCast] at hx ⊢
        have h3 := cntS_own (l := l) (m := m) (by omega) hsm
        have h4 := cntS_le (l := l) (show m + 1 ≤ t by omega) a
        split
        · rename_i hak; subst hak; rw [hck]; omega
        · rw [part_get n5 ha]; omega
      · rw [need0 hw]
        have h0 : 0 < n := by omega
        simp only [Int.toNat_zero]
        have := (H1 0 h0).1
        split
        · rw [hck]; omega
        · rw [part_get n5 h0]; omega
    · have e : part n l x (t + 1) = part n l x t := by
        unfold part
        refine List.map_congr_left fun s _ => ?_
        split
        · rename_i hsn
          rw [hsucc]
          by_cases hsk : s = k
          · subst hsk; rw [if_pos rfl]; omega
          · rw [if_neg hsk]; rfl
        · rfl
      rw [e]; exact ih
/-- A cut as a place. -/
def asPl (n : Nat) (cut : List Int) : List Int := (List.range 5).map fun s => if s < n then cut.getD s 0 else 0
theorem asPl_get {n : Nat} {cut : List Int} {s : Nat} (n5 : n ≤ 5) (hs : s < n) : (asPl n cut).getD s 0 = cut.getD s 0 := by
  have h5 : s < 5 := by omega
  simp [asPl, List.getD, h5, hs]
theorem cutOk_congr {n : Nat} {needs : List (List (Int × Int))} (hl : needs.length = n) (hr : ∀ r ∈ needs, ∀ x ∈ r, 0 ≤ x.1 ∧ x.1 < n) {a b : List Int} (h : ∀ s, s < n → a.getD s 0 = b.getD s 0) (ha : cutOk needs a = true) : cutOk needs b = true := by
  rw [cutOk_iff hl] at *
  intro s hs
  obtain ⟨h1, h2, h3⟩ := ha s hs
  rw [← h s hs]
  refine ⟨h1, h2, fun o ho x hx => ?_⟩
  have hm : needs.getD s [] ∈ needs := by simp [List.getD, show s < needs.length by omega]
  have hx' := hr _ hm x (List.mem_of_getElem? hx)
  rw [← h _ (by omega)]
  exact h3 o ho x hx
/-- The cuts that hold, as places. -/
def allPl (n : Nat) (l : List Ev) : List (List Int) := ((List.range (tot (evBs n l))).filter fun u => holdsB n l (cutL n l u)).map fun u => asPl n (cutL n l u)
theorem allPl_len (n : Nat) (l : List Ev) : (allPl n l).length = cntH n l (tot (evBs n l)) := by
  unfold allPl cntH; rw [List.length_map, List.countP_eq_length_filter]
theorem allPl_nodup {n : Nat} (n5 : n ≤ 5) (l : List Ev) : (allPl n l).Nodup := by
  unfold allPl
  rw [List.nodup_iff_pairwise_ne, List.pairwise_map]
  refine List.Pairwise.imp_of_mem ?_ (List.Pairwise.filter _ List.pairwise_lt_range)
  intro a b ha hb hab he
  have ha' := List.mem_range.1 (List.mem_filter.1 ha).1
  have hb' := List.mem_range.1 (List.mem_filter.1 hb).1
  have hd : dig (evBs n l) a = dig (evBs n l) b := by
    apply List.ext_getElem
    · rw [dig_len, dig_len]
    · intro i h1 h2
      have hin : i < n := by rw [dig_len, evBs_len] at h1; exact h1
      have h3 : (asPl n (cutL n l a)).getD i 0 = (asPl n (cutL n l b)).getD i 0 := by rw [he]
      rw [asPl_get n5 hin, asPl_get n5 hin, cutL_get, cutL_get] at h3
      simp only [List.getD, List.getElem?_eq_getElem h1, List.getElem?_eq_getElem h2, Option.getD_some] at h3
      omega
  have := val_dig _ _ ha'
  rw [hd, val_dig _ _ hb'] at this
  omega
theorem allPl_mem {n : Nat} {l : List Ev} (hv : EvsMay n l) {h : Hist} (g : HG n l l.length h) (hr : ∀ r ∈ h.needs, ∀ x ∈ r, 0 ≤ x.1 ∧ x.1 < n) (x : List Int) : x ∈ allPl n l ↔ Reach n h.needs x := by
  have n5 := hv.n5
  unfold allPl
  rw [List.mem_map]
  constructor
  · rintro ⟨u, hu, rfl⟩
    obtain ⟨_, hh⟩ := List.mem_filter.1 hu
    rw [← cutOk_holds hv g] at hh
    have hr1 := ok_reach hv g hh l.length (Nat.le_refl _)
    have e : part n l (cutL n l u) l.length = asPl n (cutL n l u) := by
      unfold part asPl
      refine List.map_congr_left fun s _ => ?_
      split
      · rename_i hs
        have := (((cutOk_ev hv g _).1 hh).1 s hs).2
        omega
      · rfl
    rw [← e]; exact hr1
  · intro hx
    obtain ⟨h1, h2⟩ := reach_ok g.len n5 hr hx
    obtain ⟨H1, _⟩ := (cutOk_ev hv g x).1 h1
    obtain ⟨d1, d2⟩ := dig_val (evBs n l) ((List.range n).map fun s => (x.getD s 0).toNat) (by simp [evBs_len]) (fun s hs => by
      rw [evBs_len] at hs
      rw [evBs_get l hs]
      have := (H1 s hs).2
      have : ((List.range n).map fun s => (x.getD s 0).toNat).getD s 0 = (x.getD s 0).toNat := by simp [List.getD, hs]
      rw [this]; omega)
    refine ⟨val (evBs n l) ((List.range n).map fun s => (x.getD s 0).toNat), ?_, ?_⟩
    · rw [List.mem_filter, List.mem_range]
      refine ⟨d2, ?_⟩
      rw [← cutOk_holds hv g]
      refine cutOk_congr g.len hr (fun s hs => ?_) h1
      rw [cutL_get, d1]
      have := (H1 s hs).1
      have e2 : ((List.range n).map fun s => (x.getD s 0).toNat).getD s 0 = (x.getD s 0).toNat := by simp [List.getD, hs]
      rw [e2]; omega
    · refine ext_getD (by rw [hx.len]; simp [asPl]) fun i h3 => ?_
      have h5 : i < 5 := by simpa [asPl] using h3
      by_cases hin : i < n
      · rw [asPl_get n5 hin, cutL_get, d1]
        have := (H1 i hin).1
        have e3 : ((List.range n).map fun s => (x.getD s 0).toNat).getD i 0 = (x.getD i 0).toNat := by simp [List.getD, hin]
        rw [e3]; omega
      · rw [h2 i (by omega)]
        simp [asPl, List.getD, h5, hin]
theorem tot_app : ∀ (bs : List Nat) (b : Nat), tot (bs ++ [b]) = tot bs * (b + 1)
  | [], b => by simp [tot]
  | c :: bs, b => by simp only [List.cons_append, tot, tot_app bs b]; rw [Nat.mul_assoc]
theorem cutsN_tot (l : List Ev) : ∀ s, cutsN l s = if tot (evBs s l) < 3000 then (tot (evBs s l) : Int) else 3000
  | 0 => by simp [cutsN, evBs, tot]
  | s + 1 => by
    have e : evBs (s + 1) l = evBs s l ++ [cntS l l.length s] := by unfold evBs; rw [List.range_succ, List.map_append]; rfl
    have hp := tot_pos (evBs s l)
    unfold cutsN
    rw [cutsN_tot l s, e, tot_app]
    generalize tot (evBs s l) = T at *
    generalize cntS l l.length s = c at *
    by_cases h1 : T < 3000
    · rw [if_pos h1]
      have e2 : ((T * (c + 1) : Nat) : Int) = (T : Int) * ((c : Int) + 1) := by rw [Int.natCast_mul]; rfl
      rw [← e2]
      by_cases h2 : T * (c + 1) < 3000
      · rw [if_pos h2, if_pos (by omega)]
      · rw [if_neg h2, if_neg (by omega)]
    · rw [if_neg h1]
      have h2 : T * 1 ≤ T * (c + 1) := Nat.mul_le_mul_left _ (by omega)
      rw [if_neg (show ¬ T * (c + 1) < 3000 by omega), if_neg (by omega)]
/-- Where there are no more than 2000 cuts, both count the same. -/
theorem ideals_same {n : Nat} {l : List Ev} (he : evErr n l = 0) (hc : ¬ 2000 < cutsN l n) {h : Hist} (hr : Hist.run n (Hist.zero n) l = some h) :
    (∀ S, BfsInv n h.needs S S.length → ridl n l = ((S.length : Int), 0)) ∧ ∀ S : List (List Int), S.Nodup → (∀ x ∈ S, Reach n h.needs x) → S.length ≠ 100000 := by
  have hv := may_of he
  obtain ⟨h', hr', g⟩ := hist_of he
  rw [hr] at hr'
  injection hr' with hr'
  subst hr'
  have hok := hist_ok (by have := hv.n2; omega) (HistOk.zero n) hr
  have hrow : ∀ r ∈ h.needs, ∀ x ∈ r, 0 ≤ x.1 ∧ x.1 < n := fun r hrr x hx => by
    obtain ⟨_, x2⟩ := hok.row r hrr
    exact ⟨(x2 x hx).1, (x2 x hx).2.1⟩
  rw [cutsN_tot] at hc
  have hT : tot (evBs n l) ≤ 2000 := by
    split at hc <;> omega
  have hle := cntH_le n l (tot (evBs n l))
  refine ⟨fun S hS => ?_, fun S hn hR h5 => ?_⟩
  · have h1 := length_le_of_subset (allPl_nodup hv.n5 l) (B := S) fun x hx => hS.all ((allPl_mem hv g hrow x).1 hx)
    have h2 := length_le_of_subset hS.nodup (B := allPl n l) fun x hx => (allPl_mem hv g hrow x).2 (hS.reach x hx)
    rw [allPl_len] at h1 h2
    unfold ridl
    rw [if_neg (by omega)]
    congr 1
    omega
  · have h2 := length_le_of_subset hn (B := allPl n l) fun x hx => (allPl_mem hv g hrow x).2 (hR x hx)
    rw [allPl_len] at h2
    omega
end Go.Proofs.Ytnkgfgkgepadhaa
