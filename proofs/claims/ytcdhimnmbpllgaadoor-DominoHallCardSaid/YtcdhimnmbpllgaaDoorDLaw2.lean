/-
  Plain: the matching is as great as can be: paths, and what a try leaves as it was. Plain: what a path does to the mates; no try leaves a cell alone that could be matched. Plain: the matching's end: a set of black cells with fewer neighbours; good sets; what is handed back refutes. Plain: a grid has a tiling exactly if its cells are matched, each with a neighbour. Plain: all have mates: there is a tiling; cells that refute: there is none. Refute in general; the specification's Count.
-/
import Derived.Test.YtcdhimnmbpllgaaDoorKPlain2
import Derived.Test.YtcdhimnmbpllgaaDoorKW3
import Derived.Test.YtcdhimnmbpllgaaDoorKSort
import Derived.Test.YtcdhimnmbpllgaaDoorTPlain2
import Derived.Test.YtcdhimnmbpllgaaDoorDLaw0
import Derived.Test.YtcdhimnmbpllgaaDoorKW4
import Derived.Test.YtcdhimnmbpllgaaDoorDQ4
namespace Go.Proofs.YtcdhimnmbpllgaaDoor
set_option linter.unusedVariables false
set_option linter.unusedSimpArgs false
set_option maxHeartbeats 1000000

/-- A way from a black cell to a white one without a mate: to a neighbour, on from its mate. -/
inductive Aug (p : List ByteArray) (m : Mates) : Cl → List (Cl × Cl) → Prop
  | last {c n : Cl} : n ∈ nbrsL p c → lk2 m n = none → Aug p m c [(c, n)]
  | more {c n b : Cl} {t : List (Cl × Cl)} : n ∈ nbrsL p c → lk2 m n = some b → Aug p m b t → Aug p m c ((c, n) :: t)
def eff (m : Mates) : List (Cl × Cl) → Mates
  | [] => m
  | (c, n) :: t => pt2 (pt2 (eff m t) n c) c n
theorem tryL_spec {p : List ByteArray} {c : Cl} {N : Nat} {rec : List Cl → Mates → Cl → Bool × List Cl × Mates}
    (hT : ∀ s m b, TInv p s m → inR p b → 64 < s.length + N → (rec s m b).1 = true → ∃ t, Aug p m b t ∧ (∀ x ∈ t, ¬ x.2 ∈ s) ∧ (t.map (·.2)).Nodup ∧ (rec s m b).2.2 = eff m t)
    (hF : ∀ s m b, TInv p s m → inR p b → 64 < s.length + N → (rec s m b).1 = false → (rec s m b).2.2 = m ∧ (∀ x ∈ s, x ∈ (rec s m b).2.1) ∧ (∀ n ∈ nbrsL p b, n ∈ (rec s m b).2.1) ∧ (∀ n ∈ (rec s m b).2.1, ¬ n ∈ s → ∃ d, lk2 m n = some d ∧ ∀ n' ∈ nbrsL p d, n' ∈ (rec s m b).2.1))
    (hI : ∀ s m b, TInv p s m → inR p b → TInv p (rec s m b).2.1 (rec s m b).2.2 ∧ s.length ≤ (rec s m b).2.1.length) :
    ∀ (xs seen : List Cl) (m : Mates), (∀ x ∈ xs, x ∈ nbrsL p c) → TInv p seen m → 64 < seen.length + (N + 1) →
      ((tryL rec c xs seen m).1 = true → ∃ t, Aug p m c t ∧ (∀ x ∈ t, ¬ x.2 ∈ seen) ∧ (t.map (·.2)).Nodup ∧ (tryL rec c xs seen m).2.2 = eff m t) ∧
      ((tryL rec c xs seen m).1 = false → (tryL rec c xs seen m).2.2 = m ∧ (∀ x ∈ seen, x ∈ (tryL rec c xs seen m).2.1) ∧ (∀ n ∈ xs, n ∈ (tryL rec c xs seen m).2.1) ∧ (∀ n ∈ (tryL rec c xs seen m).2.1, ¬ n ∈ seen → ∃ d, lk2 m n = some d ∧ ∀ n' ∈ nbrsL p d, n' ∈ (tryL rec c xs seen m).2.1))
  | [], seen, m, _, _, _ => ⟨fun h => (by cases h), fun _ => ⟨rfl, fun x hx => hx, fun n hn => (by cases hn), fun n hn hs => absurd hn hs⟩⟩
  | x :: xs, seen, m, hx, hInv, hlen => by
    have hx0 := hx x (List.mem_cons_self ..)
    have hxs := fun y hy => hx y (List.mem_cons_of_mem _ hy)
    unfold tryL
    by_cases hs : x ∈ seen
    · rw [if_pos hs]
      obtain ⟨k1, k2⟩ := tryL_spec hT hF hI xs seen m hxs hInv hlen
      refine ⟨k1, fun h => ?_⟩
      obtain ⟨j1, j2, j3, j4⟩ := k2 h
      refine ⟨j1, j2, fun n hn => ?_, j4⟩
      rcases List.mem_cons.1 hn with rfl | hn
      · exact j2 _ hs
      · exact j3 n hn
    · rw [if_neg hs]
      have h1 := hInv.see (nbr_in hx0) hs
      cases hlo : lk2 m x with
      | none =>
        simp only
        refine ⟨fun _ => ⟨[(c, x)], .last hx0 hlo, fun y hy => ?_, by simp, rfl⟩, fun h => (by cases h)⟩
        rw [List.mem_singleton] at hy
        rw [hy]; exact hs
      | some b =>
        simp only
        have hb := hInv.val _ _ hlo
        have hl2 : 64 < (seen ++ [x]).length + N := by rw [List.length_append, List.length_singleton]; omega
        cases hr : (rec (seen ++ [x]) m b).1 with
        | true =>
          simp only [if_true]
          refine ⟨fun _ => ?_, fun h => (by cases h)⟩
          obtain ⟨t, t1, t2, t3, t4⟩ := hT _ _ _ h1 hb hl2 hr
          refine ⟨(c, x) :: t, .more hx0 hlo t1, fun y hy => ?_, ?_, ?_⟩
          · rcases List.mem_cons.1 hy with rfl | hy
            · exact hs
            · exact fun h => t2 y hy (List.mem_append_left _ h)
          · rw [List.map_cons, List.nodup_cons]
            refine ⟨fun h => ?_, t3⟩
            obtain ⟨y, hy, he⟩ := List.mem_map.1 h
            exact t2 y hy (by rw [he]; simp)
          · rw [t4]; rfl
        | false =>
          simp only [Bool.false_eq_true, if_false]
          obtain ⟨i1, i2⟩ := hI _ _ _ h1 hb
          rw [List.length_append, List.length_singleton] at i2
          obtain ⟨f1, f2, f3, f4⟩ := hF _ _ _ h1 hb hl2 hr
          obtain ⟨k1, k2⟩ := tryL_spec hT hF hI xs (rec (seen ++ [x]) m b).2.1 (rec (seen ++ [x]) m b).2.2 hxs i1 (by omega)
          rw [f1] at k1 k2 ⊢
          refine ⟨fun h => ?_, fun h => ?_⟩
          · obtain ⟨t, t1, t2, t3, t4⟩ := k1 h
            exact ⟨t, t1, fun y hy hh => t2 y hy (f2 _ (List.mem_append_left _ hh)), t3, t4⟩
          · obtain ⟨j1, j2, j3, j4⟩ := k2 h
            refine ⟨j1, fun y hy => j2 _ (f2 _ (List.mem_append_left _ hy)), fun n hn => ?_, fun n hn hns => ?_⟩
            · rcases List.mem_cons.1 hn with rfl | hn
              · exact j2 _ (f2 _ (by simp))
              · exact j3 n hn
            · by_cases hin : n ∈ (rec (seen ++ [x]) m b).2.1
              · by_cases hnx : n ∈ seen ++ [x]
                · rcases List.mem_append.1 hnx with h2 | h2
                  · exact absurd h2 hns
                  · rw [List.mem_singleton] at h2
                    subst h2
                    exact ⟨b, hlo, fun n' hn' => j2 _ (f3 n' hn')⟩
                · obtain ⟨d, d1, d2⟩ := f4 n hin hnx
                  exact ⟨d, d1, fun n' hn' => j2 _ (d2 n' hn')⟩
              · exact j4 n hn hin
theorem tryF_spec {p : List ByteArray} (hp : RegOk p) : ∀ (N : Nat) (s : List Cl) (m : Mates) (b : Cl), TInv p s m → inR p b → 64 < s.length + N →
      ((tryF p N s m b).1 = true → ∃ t, Aug p m b t ∧ (∀ x ∈ t, ¬ x.2 ∈ s) ∧ (t.map (·.2)).Nodup ∧ (tryF p N s m b).2.2 = eff m t) ∧
      ((tryF p N s m b).1 = false → (tryF p N s m b).2.2 = m ∧ (∀ x ∈ s, x ∈ (tryF p N s m b).2.1) ∧ (∀ n ∈ nbrsL p b, n ∈ (tryF p N s m b).2.1) ∧ (∀ n ∈ (tryF p N s m b).2.1, ¬ n ∈ s → ∃ d, lk2 m n = some d ∧ ∀ n' ∈ nbrsL p d, n' ∈ (tryF p N s m b).2.1))
  | 0, s, m, b, hI, _, hl => by have := hI.len hp; omega
  | N + 1, s, m, b, hI, hb, hl => tryL_spec (fun s m b h1 h2 h3 => (tryF_spec hp N s m b h1 h2 h3).1) (fun s m b h1 h2 h3 => (tryF_spec hp N s m b h1 h2 h3).2) (fun s m b h1 h2 => tryF_inv N s m b h1 h2) (nbrsL p b) s m (fun x h => h) hI hl
end Go.Proofs.YtcdhimnmbpllgaaDoor

namespace Go.Proofs.YtcdhimnmbpllgaaDoor
set_option linter.unusedVariables false
set_option linter.unusedSimpArgs false
set_option maxHeartbeats 1000000

def SymM (m : Mates) : Prop := ∀ a b, lk2 m a = some b → lk2 m b = some a
def AdjM (p : List ByteArray) (m : Mates) : Prop := ∀ a b, lk2 m a = some b → b ∈ nbrsL p a
theorem eff_cons (m : Mates) (c n q : Cl) (t : List (Cl × Cl)) : lk2 (eff m ((c, n) :: t)) q = if c = q then some n else if n = q then some c else lk2 (eff m t) q := by
  show lk2 (pt2 (pt2 (eff m t) n c) c n) q = _
  rw [lk2_pt2, lk2_pt2]
theorem nbr_blk {p : List ByteArray} {b n : Cl} (h : n ∈ nbrsL p b) : blackB n = !blackB b := black_nbr h
theorem nbr_sym {p : List ByteArray} {b n : Cl} (hb : inR p b) (h : n ∈ nbrsL p b) : b ∈ nbrsL p n := by
  have h' := h
  unfold nbrsL nbrsK at h ⊢
  obtain ⟨i, hi, rfl⟩ := List.mem_map.1 h
  have hi4 := List.mem_range.1 (List.mem_filter.1 hi).1
  refine List.mem_map.2 ⟨3 - i, List.mem_filter.2 ⟨List.mem_range.2 (by omega), ?_⟩, ?_⟩
  · have e1 : b.1 + dxN i + dxN (3 - i) = b.1 := by
      have : i = 0 ∨ i = 1 ∨ i = 2 ∨ i = 3 := by omega
      rcases this with rfl | rfl | rfl | rfl <;> simp [dxN] <;> omega
    have e2 : b.2 + dyN i + dyN (3 - i) = b.2 := by
      have : i = 0 ∨ i = 1 ∨ i = 2 ∨ i = 3 := by omega
      rcases this with rfl | rfl | rfl | rfl <;> simp [dyN] <;> omega
    simp only
    rw [e1, e2]
    exact hb
  · have : i = 0 ∨ i = 1 ∨ i = 2 ∨ i = 3 := by omega
    apply Prod.ext
    · rcases this with rfl | rfl | rfl | rfl <;> simp [dxN] <;> omega
    · rcases this with rfl | rfl | rfl | rfl <;> simp [dyN] <;> omega
section
variable {p : List ByteArray} {m : Mates}
theorem Aug.nbr {c : Cl} {t : List (Cl × Cl)} (h : Aug p m c t) : ∀ x ∈ t, x.2 ∈ nbrsL p x.1 := by
  induction h with
  | last h1 h2 => intro x hx; rw [List.mem_singleton] at hx; rw [hx]; exact h1
  | more h1 h2 h3 ih =>
    intro x hx
    rcases List.mem_cons.1 hx with rfl | hx
    · exact h1
    · exact ih x hx
theorem Aug.blk {c : Cl} {t : List (Cl × Cl)} (hA : AdjM p m) (h : Aug p m c t) : blackB c = true → ∀ x ∈ t, blackB x.1 = true ∧ blackB x.2 = false := by
  induction h with
  | last h1 h2 => intro hc x hx; rw [List.mem_singleton] at hx; rw [hx]; exact ⟨hc, by rw [nbr_blk h1, hc]; rfl⟩
  | more h1 h2 h3 ih =>
    intro hc x hx
    have e1 := nbr_blk h1
    have e2 := nbr_blk (hA _ _ h2)
    rcases List.mem_cons.1 hx with rfl | hx
    · exact ⟨hc, by rw [e1, hc]; rfl⟩
    · exact ih (by rw [e2, e1, hc]; rfl) x hx
/-- The blacks behind the first one are mates of the whites ahead of them. -/
theorem Aug.prev {c : Cl} {t : List (Cl × Cl)} (h : Aug p m c t) : ∀ x ∈ t, x.1 = c ∨ ∃ y ∈ t, lk2 m y.2 = some x.1 := by
  induction h with
  | last h1 h2 => intro x hx; rw [List.mem_singleton] at hx; rw [hx]; exact .inl rfl
  | more h1 h2 h3 ih =>
    intro x hx
    rcases List.mem_cons.1 hx with rfl | hx
    · exact .inl rfl
    · rcases ih x hx with e | ⟨y, hy, e⟩
      · exact .inr ⟨_, List.mem_cons_self .., by rw [e]; exact h2⟩
      · exact .inr ⟨y, List.mem_cons_of_mem _ hy, e⟩
theorem Aug.head {c : Cl} {t : List (Cl × Cl)} (h : Aug p m c t) : ∃ n, (c, n) ∈ t := by
  cases h with
  | last h1 h2 => exact ⟨_, List.mem_cons_self ..⟩
  | more h1 h2 h3 => exact ⟨_, List.mem_cons_self ..⟩
theorem Aug.next {c : Cl} {t : List (Cl × Cl)} (h : Aug p m c t) : ∀ x ∈ t, lk2 m x.2 = none ∨ ∃ y ∈ t, lk2 m x.2 = some y.1 := by
  induction h with
  | last h1 h2 => intro x hx; rw [List.mem_singleton] at hx; rw [hx]; exact .inl h2
  | more h1 h2 h3 ih =>
    intro x hx
    rcases List.mem_cons.1 hx with rfl | hx
    · obtain ⟨n', hn'⟩ := h3.head
      exact .inr ⟨_, List.mem_cons_of_mem _ hn', h2⟩
    · rcases ih x hx with e | ⟨y, hy, e⟩
      · exact .inl e
      · exact .inr ⟨y, List.mem_cons_of_mem _ hy, e⟩
theorem eff_out : ∀ (t : List (Cl × Cl)) (q : Cl), (∀ x ∈ t, x.1 ≠ q ∧ x.2 ≠ q) → lk2 (eff m t) q = lk2 m q
  | [], q, _ => rfl
  | (c, n) :: t, q, h => by
    obtain ⟨h1, h2⟩ := h (c, n) (List.mem_cons_self ..)
    rw [eff_cons, if_neg h1, if_neg h2, eff_out t q fun x hx => h x (List.mem_cons_of_mem _ hx)]
theorem eff_in (hS : SymM m) (hA : AdjM p m) {c : Cl} {t : List (Cl × Cl)} (h : Aug p m c t) : blackB c = true → (t.map (·.2)).Nodup → (∀ x0, lk2 m c = some x0 → ¬ x0 ∈ t.map (·.2)) → ∀ x ∈ t, lk2 (eff m t) x.1 = some x.2 ∧ lk2 (eff m t) x.2 = some x.1 := by
  induction h with
  | @last c n h1 h2 =>
    intro hc _ _ x hx
    rw [List.mem_singleton] at hx
    subst hx
    have hne : c ≠ n := fun e => by have := nbr_blk h1; rw [← e] at this; cases hb : blackB c <;> rw [hb] at this <;> cases this
    rw [eff_cons, eff_cons, if_pos rfl, if_neg hne, if_pos rfl]
    exact ⟨rfl, rfl⟩
  | @more c n b t h1 h2 h3 ih =>
    intro hc hnd hx0 x hx
    have e1 := nbr_blk h1
    have e2 := nbr_blk (hA _ _ h2)
    have hne : c ≠ n := fun e => by rw [← e] at e1; cases hb : blackB c <;> rw [hb] at e1 <;> cases e1
    have hbb : blackB b = true := by rw [e2, e1, hc]; rfl
    rw [List.map_cons, List.nodup_cons] at hnd
    rcases List.mem_cons.1 hx with rfl | hx
    · rw [eff_cons, eff_cons, if_pos rfl, if_neg hne, if_pos rfl]
      exact ⟨rfl, rfl⟩
    · have hbn := hS _ _ h2
      obtain ⟨k1, k2⟩ := ih hbb hnd.2 (fun y hy => by rw [hbn] at hy; injection hy with hy; rw [← hy]; exact hnd.1) x hx
      obtain ⟨j1, j2⟩ := h3.blk hA hbb x hx
      have hc1 : c ≠ x.1 := fun e => by
        rcases (Aug.more h1 h2 h3).prev x (List.mem_cons_of_mem _ hx) with e3 | ⟨y, hy, e3⟩
        · rcases h3.prev x hx with e4 | ⟨y, hy, e4⟩
          · exact hx0 n (by rw [e, e4]; exact hbn) (List.mem_cons_self ..)
          · exact hx0 y.2 (by rw [e]; exact hS _ _ e4) (List.mem_cons_of_mem _ (List.mem_map.2 ⟨y, hy, rfl⟩))
        · exact hx0 y.2 (by rw [e]; exact hS _ _ e3) (List.mem_map.2 ⟨y, hy, rfl⟩)
      have hn1 : n ≠ x.1 := fun e => by rw [← e, e1, hc] at j1; cases j1
      have hc2 : c ≠ x.2 := fun e => by rw [← e, hc] at j2; cases j2
      have hn2 : n ≠ x.2 := fun e => hnd.1 (List.mem_map.2 ⟨x, hx, e.symm⟩)
      rw [eff_cons, eff_cons, if_neg hc1, if_neg hn1, if_neg hc2, if_neg hn2]
      exact ⟨k1, k2⟩
theorem Aug.notX {X : Cl → Prop} (hX : ∀ x, X x → ∀ n ∈ nbrsL p x, ∃ b, lk2 m n = some b ∧ X b) {c : Cl} {t : List (Cl × Cl)} (h : Aug p m c t) : ¬ X c ∧ ∀ x ∈ t, ¬ X x.1 := by
  induction h with
  | last h1 h2 =>
    have : ¬ X _ := fun hx => by obtain ⟨b, hb, _⟩ := hX _ hx _ h1; rw [h2] at hb; cases hb
    exact ⟨this, fun x hx => by rw [List.mem_singleton] at hx; rw [hx]; exact this⟩
  | more h1 h2 h3 ih =>
    have : ¬ X _ := fun hx => by
      obtain ⟨b', hb, hb2⟩ := hX _ hx _ h1
      rw [h2] at hb
      injection hb with hb
      rw [← hb] at hb2
      exact ih.1 hb2
    refine ⟨this, fun x hx => ?_⟩
    rcases List.mem_cons.1 hx with rfl | hx
    · exact this
    · exact ih.2 x hx
/-- What a path from a black cell without a mate does. -/
structure EffOk (p : List ByteArray) (m m' : Mates) (c : Cl) : Prop where
  sym : SymM m'
  adj : AdjM p m'
  dom : ∀ a, lk2 m' a = none → lk2 m a = none
  cm : lk2 m' c ≠ none
  blk : ∀ a, blackB a = true → lk2 m' a ≠ none → lk2 m a ≠ none ∨ a = c
  keep : ∀ (X : Cl → Prop), (∀ x, X x → blackB x = true) → (∀ x, X x → ∀ n ∈ nbrsL p x, ∃ b, lk2 m n = some b ∧ X b) → ∀ x, X x → ∀ n ∈ nbrsL p x, ∃ b, lk2 m' n = some b ∧ X b
theorem eff_ok (hI : TInv p [] m) (hS : SymM m) (hA : AdjM p m) {c : Cl} {t : List (Cl × Cl)} (h : Aug p m c t) (hc : blackB c = true) (hin : inR p c) (hn : lk2 m c = none) (hnd : (t.map (·.2)).Nodup) : EffOk p m (eff m t) c := by
  have hi := eff_in hS hA h hc hnd (fun x0 h0 => by rw [hn] at h0; cases h0)
  have hbl := h.blk hA hc
  have hcase : ∀ q, (∃ x ∈ t, x.1 = q) ∨ (∃ x ∈ t, x.2 = q) ∨ ((∀ x ∈ t, x.1 ≠ q ∧ x.2 ≠ q) ∧ lk2 (eff m t) q = lk2 m q) := fun q => by
    by_cases h1 : ∃ x ∈ t, x.1 = q
    · exact .inl h1
    · by_cases h2 : ∃ x ∈ t, x.2 = q
      · exact .inr (.inl h2)
      · have h3 : ∀ x ∈ t, x.1 ≠ q ∧ x.2 ≠ q := fun x hx => ⟨fun e => h1 ⟨x, hx, e⟩, fun e => h2 ⟨x, hx, e⟩⟩
        exact .inr (.inr ⟨h3, eff_out t q h3⟩)
  have hinb : ∀ x ∈ t, inR p x.1 := fun x hx => by
    rcases h.prev x hx with e | ⟨y, hy, e⟩
    · rw [e]; exact hin
    · exact hI.val _ _ e
  refine ⟨fun a b hab => ?_, fun a b hab => ?_, fun a ha => ?_, ?_, fun a ha hab => ?_, fun X hXb hX x hx n hnx => ?_⟩
  · rcases hcase a with ⟨x, hx, rfl⟩ | ⟨x, hx, rfl⟩ | ⟨e0, e⟩
    · rw [(hi x hx).1] at hab; injection hab with hab; rw [← hab]; exact (hi x hx).2
    · rw [(hi x hx).2] at hab; injection hab with hab; rw [← hab]; exact (hi x hx).1
    · rw [e] at hab
      have hba := hS _ _ hab
      have ho : ∀ x ∈ t, x.1 ≠ b ∧ x.2 ≠ b := fun x hx => by
        constructor
        · intro e2
          rcases h.prev x hx with e3 | ⟨y, hy, e3⟩
          · rw [← e2, e3, hn] at hba; cases hba
          · have e4 := hS _ _ e3
            rw [e2, hba] at e4
            injection e4 with e4
            exact (e0 y hy).2 e4.symm
        · intro e2
          rcases h.next x hx with e3 | ⟨y, hy, e3⟩
          · rw [e2, hba] at e3; cases e3
          · rw [e2, hba] at e3
            injection e3 with e3
            exact (e0 y hy).1 e3.symm
      rw [eff_out t b ho]
      exact hba
  · rcases hcase a with ⟨x, hx, rfl⟩ | ⟨x, hx, rfl⟩ | ⟨e0, e⟩
    · rw [(hi x hx).1] at hab; injection hab with hab; rw [← hab]; exact h.nbr x hx
    · rw [(hi x hx).2] at hab; injection hab with hab; rw [← hab]; exact nbr_sym (hinb x hx) (h.nbr x hx)
    · rw [e] at hab; exact hA _ _ hab
  · rcases hcase a with ⟨x, hx, rfl⟩ | ⟨x, hx, rfl⟩ | ⟨e0, e⟩
    · rw [(hi x hx).1] at ha; cases ha
    · rw [(hi x hx).2] at ha; cases ha
    · rw [← e]; exact ha
  · obtain ⟨n, hn2⟩ := h.head
    rw [(hi _ hn2).1]
    exact fun e => by cases e
  · rcases hcase a with ⟨x, hx, rfl⟩ | ⟨x, hx, rfl⟩ | ⟨e0, e⟩
    · rcases h.prev x hx with e | ⟨y, hy, e⟩
      · exact .inr e
      · exact .inl (by rw [hS _ _ e]; exact fun e => by cases e)
    · rw [(hbl x hx).2] at ha; cases ha
    · rw [← e]; exact .inl hab
  · obtain ⟨b, hb, hXb2⟩ := hX x hx n hnx
    have hnX := (h.notX hX).2
    rcases hcase n with ⟨y, hy, rfl⟩ | ⟨y, hy, rfl⟩ | ⟨e0, e⟩
    · have e1 := (hbl y hy).1
      rw [nbr_blk hnx, hXb x hx] at e1
      cases e1
    · rcases h.next y hy with e3 | ⟨z, hz, e3⟩
      · rw [hb] at e3; cases e3
      · rw [hb] at e3
        injection e3 with e3
        rw [e3] at hXb2
        exact absurd hXb2 (hnX z hz)
    · exact ⟨b, by rw [e]; exact hb, hXb2⟩
end
end Go.Proofs.YtcdhimnmbpllgaaDoor

namespace Go.Proofs.YtcdhimnmbpllgaaDoor
set_option linter.unusedVariables false
set_option linter.unusedSimpArgs false
set_option maxHeartbeats 1000000

theorem rowCl_nodup (p : List ByteArray) (y : Nat) : ∀ k, (rowCl p y k).Nodup
  | 0 => by unfold rowCl; simp
  | k + 1 => by
    rw [rowCl_succ]
    rw [List.nodup_append]
    refine ⟨rowCl_nodup p y k, by split <;> simp, fun a ha b hb => ?_⟩
    split at hb
    · rw [List.mem_singleton] at hb
      obtain ⟨x, hx, _, rfl⟩ := mem_rowCl.1 ha
      rw [hb]
      intro e
      have := congrArg Prod.fst e
      simp only at this
      omega
    · cases hb
theorem cellsK_nodup (p : List ByteArray) : ∀ k, (cellsK p k).Nodup
  | 0 => by unfold cellsK; simp
  | k + 1 => by
    rw [cellsK_succ, List.nodup_append]
    refine ⟨cellsK_nodup p k, rowCl_nodup p k _, fun a ha b hb => ?_⟩
    unfold cellsK at ha
    rw [List.mem_flatMap] at ha
    obtain ⟨y, hy, ha⟩ := ha
    rw [List.mem_range] at hy
    obtain ⟨x, hx, _, rfl⟩ := mem_rowCl.1 ha
    obtain ⟨x', hx', _, rfl⟩ := mem_rowCl.1 hb
    intro e
    have := congrArg Prod.snd e
    simp only at this
    omega
/-- Black cells all of whose neighbours have mates among them. -/
structure XOk (p : List ByteArray) (m : Mates) (X : Cl → Prop) : Prop where
  blk : ∀ x, X x → blackB x = true
  ins : ∀ x, X x → inR p x
  cl : ∀ x, X x → ∀ n ∈ nbrsL p x, ∃ b, lk2 m n = some b ∧ X b
structure KInv (p : List ByteArray) (k : Nat) (m : Mates) : Prop where
  inv : TInv p [] m
  sym : SymM m
  adj : AdjM p m
  un : ∀ (j : Nat) (c : Cl), k ≤ j → (cellsL p)[j]? = some c → blackB c = true → lk2 m c = none
  ex : ∃ X : Cl → Prop, XOk p m X ∧ ∀ (j : Nat) (c : Cl), j < k → (cellsL p)[j]? = some c → blackB c = true → lk2 m c = none → X c
theorem cells_inj {p : List ByteArray} {i j : Nat} {c : Cl} (h1 : (cellsL p)[i]? = some c) (h2 : (cellsL p)[j]? = some c) : i = j := by
  obtain ⟨i1, e1⟩ := List.getElem?_eq_some_iff.1 h1
  obtain ⟨i2, e2⟩ := List.getElem?_eq_some_iff.1 h2
  exact (List.getElem_inj (cellsK_nodup p p.length)).1 (e1.trans e2.symm)
theorem KInv.step {p : List ByteArray} (hp : RegOk p) {k : Nat} {m : Mates} {c : Cl} (h : KInv p k m) (hc : (cellsL p)[k]? = some c) : KInv p (k + 1) (stepM p m c) := by
  have hin : inR p c := mem_cells.1 (List.mem_of_getElem? hc)
  have hI := stepM_inv h.inv hin
  obtain ⟨X, hX, hXu⟩ := h.ex
  unfold stepM at hI ⊢
  cases hb : blackB c with
  | false =>
    rw [if_neg (by simp)]
    refine ⟨h.inv, h.sym, h.adj, fun j d hj => h.un j d (by omega), X, hX, fun j d hj hd hbd hl => ?_⟩
    by_cases e : j = k
    · subst e; rw [hc] at hd; injection hd with hd; rw [← hd, hb] at hbd; cases hbd
    · exact hXu j d (by omega) hd hbd hl
  | true =>
    rw [hb] at hI
    rw [if_pos rfl] at hI ⊢
    have hn := h.un k c (Nat.le_refl _) hc hb
    obtain ⟨sT, sF⟩ := tryF_spec hp 65 [] m c h.inv hin (by simp)
    cases hr : (tryF p 65 [] m c).1 with
    | true =>
      obtain ⟨t, t1, t2, t3, t4⟩ := sT hr
      rw [t4] at hI ⊢
      have E := eff_ok h.inv h.sym h.adj t1 hb hin hn t3
      refine ⟨hI, E.sym, E.adj, fun j d hj hd hbd => ?_, X, ⟨hX.blk, hX.ins, E.keep X hX.blk hX.cl⟩, fun j d hj hd hbd hl => ?_⟩
      · cases hq : lk2 (eff m t) d with
        | none => rfl
        | some x =>
          rcases E.blk d hbd (by rw [hq]; exact fun e => by cases e) with e | e
          · exact absurd (h.un j d (by omega) hd hbd) e
          · rw [e] at hd
            have := cells_inj hc hd
            omega
      · by_cases e : j = k
        · subst e; rw [hc] at hd; injection hd with hd; rw [← hd] at hl; exact absurd hl E.cm
        · exact hXu j d (by omega) hd hbd (E.dom d hl)
    | false =>
      obtain ⟨f1, _, f3, f4⟩ := sF hr
      rw [f1] at hI ⊢
      have hcl : ∀ x, blackB x = true → (∀ n ∈ nbrsL p x, n ∈ (tryF p 65 [] m c).2.1) → ∀ n ∈ nbrsL p x, ∃ b, lk2 m n = some b ∧ (X b ∨ b = c ∨ (blackB b = true ∧ inR p b ∧ ∃ n ∈ (tryF p 65 [] m c).2.1, lk2 m n = some b)) := fun x hx hs n hnx => by
        obtain ⟨d, d1, d2⟩ := f4 n (hs n hnx) (by simp)
        refine ⟨d, d1, .inr (.inr ⟨?_, h.inv.val _ _ d1, n, hs n hnx, d1⟩)⟩
        rw [nbr_blk (h.adj _ _ d1), nbr_blk hnx, hx]; rfl
      refine ⟨hI, h.sym, h.adj, fun j d hj => h.un j d (by omega), fun x => X x ∨ x = c ∨ (blackB x = true ∧ inR p x ∧ ∃ n ∈ (tryF p 65 [] m c).2.1, lk2 m n = some x), ⟨?_, ?_, ?_⟩, fun j d hj hd hbd hl => ?_⟩
      · rintro x (hx | rfl | hx)
        · exact hX.blk x hx
        · exact hb
        · exact hx.1
      · rintro x (hx | rfl | hx)
        · exact hX.ins x hx
        · exact hin
        · exact hx.2.1
      · rintro x (hx | rfl | ⟨hx, _, n0, hn0, hx0⟩) n hnx
        · obtain ⟨b, b1, b2⟩ := hX.cl x hx n hnx
          exact ⟨b, b1, .inl b2⟩
        · exact hcl x hb f3 n hnx
        · refine hcl x hx (fun y hy => ?_) n hnx
          obtain ⟨d, d1, d2⟩ := f4 n0 hn0 (by simp)
          rw [hx0] at d1
          injection d1 with d1
          exact d2 y (by rw [← d1]; exact hy)
      · by_cases e : j = k
        · subst e; rw [hc] at hd; injection hd with hd; exact .inr (.inl hd.symm)
        · exact .inl (hXu j d (by omega) hd hbd hl)
theorem kinv_all {p : List ByteArray} (hp : RegOk p) : ∀ k, k ≤ (cellsL p).length → KInv p k (matK p k)
  | 0, _ => ⟨TInv.nil p, fun a b h => (by cases h), fun a b h => (by cases h), fun j c _ _ _ => rfl, fun _ => False, ⟨fun x h => h.elim, fun x h => h.elim, fun x h => h.elim⟩, fun j c hj => by omega⟩
  | k + 1, hk => by
    have hc : (cellsL p)[k]? = some (cellsL p)[k] := List.getElem?_eq_getElem (by omega)
    rw [matK_succ hc]
    exact (kinv_all hp k (by omega)).step hp hc
/-- What is so of the matching at the end. -/
structure MatOk (p : List ByteArray) (m : Mates) (X : Cl → Prop) : Prop where
  inv : TInv p [] m
  sym : SymM m
  adj : AdjM p m
  x : XOk p m X
  un : ∀ c, inR p c → blackB c = true → lk2 m c = none → X c
theorem mat_ok {p : List ByteArray} (hp : RegOk p) : ∃ X, MatOk p (matF p) X := by
  have h := kinv_all hp (cellsL p).length (Nat.le_refl _)
  have e : matK p (cellsL p).length = matF p := by unfold matK matF; rw [List.take_length]
  rw [e] at h
  obtain ⟨X, hX, hu⟩ := h.ex
  refine ⟨X, h.inv, h.sym, h.adj, hX, fun c hc hb hl => ?_⟩
  obtain ⟨j, hj⟩ := List.getElem?_of_mem (mem_cells.2 hc)
  exact hu j c (List.getElem?_eq_some_iff.1 hj).1 hj hb hl
theorem good_set {p : List ByteArray} {m : Mates} {X : Cl → Prop} (h : MatOk p m X) {q0 : Cl} (hq : inR p q0) (hl : lk2 m q0 = none) :
    ∃ G : Cl → Prop, G q0 ∧ (∀ x, G x → inR p x ∧ ∀ n ∈ nbrsL p x, ∃ b, lk2 m n = some b ∧ G b) ∧ ∀ x, G x → blackB x = blackB q0 := by
  cases hb : blackB q0 with
  | true => exact ⟨X, h.un q0 hq hb hl, fun x hx => ⟨h.x.ins x hx, h.x.cl x hx⟩, fun x hx => h.x.blk x hx⟩
  | false =>
    refine ⟨fun x => blackB x = false ∧ inR p x ∧ ∀ c, X c → ¬ x ∈ nbrsL p c, ⟨hb, hq, fun c hc hn => ?_⟩, fun x hx => ⟨hx.2.1, fun n hn => ?_⟩, fun x hx => hx.1⟩
    · obtain ⟨b, b1, _⟩ := h.x.cl c hc _ hn
      rw [hl] at b1; cases b1
    · have hnX : ¬ X n := fun hX => hx.2.2 n hX (nbr_sym hx.2.1 hn)
      have hnb : blackB n = true := by rw [nbr_blk hn, hx.1]; rfl
      cases hln : lk2 m n with
      | none => exact absurd (h.un n (nbr_in hn) hnb hln) hnX
      | some b =>
        refine ⟨b, rfl, by rw [nbr_blk (h.adj _ _ hln), hnb]; rfl, h.inv.val _ _ hln, fun c hc hbc => ?_⟩
        obtain ⟨c', c1, c2⟩ := h.x.cl c hc b hbc
        rw [h.sym _ _ hln] at c1
        injection c1 with c1
        exact hnX (by rw [c1]; exact c2)
theorem okL_of {p : List ByteArray} {b : Bool} : ∀ (l : List Cl) (prev : Option Cl), (∀ x ∈ l, inR p x ∧ blackB x = b) → l.Pairwise (fun x y => rdC x y < 0) → (∀ x ∈ l, ordC prev x = true) → okL p b prev l = true
  | [], _, _, _, _ => rfl
  | c :: t, prev, h, hw, ho => by
    rw [List.pairwise_cons] at hw
    unfold okL okR
    obtain ⟨h1, h2⟩ := h c (List.mem_cons_self ..)
    have h1' : hsI p c.1 c.2 = true := h1
    rw [h1', h2, ho c (List.mem_cons_self ..), okL_of t (some c) (fun x hx => h x (List.mem_cons_of_mem _ hx)) hw.2 (fun x hx => by unfold ordC; exact decide_eq_true (hw.1 x hx))]
    simp
theorem ref_ok {p : List ByteArray} {m : Mates} {X G : Cl → Prop} (h : MatOk p m X) {q0 : Cl} (hl0 : lk2 m q0 = none) (hG : ∀ x, G x → inR p x ∧ ∀ n ∈ nbrsL p x, ∃ b, lk2 m n = some b ∧ G b) (hGb : ∀ x, G x → blackB x = blackB q0) {l l' : List Cl} (hO : COut p m G q0 l) (hP : l'.Perm l) (hs : ∀ i j, i < j → j < l'.length → ltOf rdC (l'.getD j (0, 0)) (l'.getD i (0, 0)) = false) : refB p l' = true := by
  have hnd : l'.Nodup := hP.nodup_iff.2 hO.nd
  have hmem : ∀ x, x ∈ l' ↔ x ∈ l := fun x => hP.mem_iff
  have hq0 : q0 ∈ l' := (hmem _).2 hO.q0
  have hpw : l'.Pairwise (fun x y => rdC x y < 0) := by
    rw [List.pairwise_iff_getElem]
    intro i j hi hj hij
    have h1 := hs i j hij hj
    rw [lt_rd, List.getD_eq_getElem?_getD, List.getD_eq_getElem?_getD, List.getElem?_eq_getElem hi, List.getElem?_eq_getElem hj] at h1
    simp only [Option.getD_some, decide_eq_false_iff_not] at h1
    rw [rdC_lt]
    have hne : l'[i] ≠ l'[j] := fun e => by
      have := (List.getElem_inj hnd).1 e
      omega
    have hne2 : ¬ (l'[i].1 = l'[j].1 ∧ l'[i].2 = l'[j].2) := fun e => hne (Prod.ext e.1 e.2)
    omega
  have hlen : 0 < l'.length := List.length_pos_of_mem hq0
  have hb0 : b0L l' = blackB q0 := by
    unfold b0L
    rw [List.getD_eq_getElem?_getD, List.getElem?_eq_getElem hlen]
    exact hGb _ (hO.good _ ((hmem _).1 (List.getElem_mem hlen)))
  unfold refB
  rw [okL_of l' none (fun x hx => ⟨(hG x (hO.good x ((hmem x).1 hx))).1, (hGb x (hO.good x ((hmem x).1 hx))).trans hb0.symm⟩) hpw (fun x _ => rfl)]
  rw [Bool.true_and]
  refine decide_eq_true ?_
  have hmt : ∀ n ∈ nearL p l', ∃ b, lk2 m n = some b ∧ b ∈ l'.erase q0 := fun n hn => by
    obtain ⟨c, hc, hn2⟩ := nearL_mem.1 hn
    have hcl := (hmem c).1 hc
    obtain ⟨b, b1, _⟩ := (hG c (hO.good c hcl)).2 n hn2
    refine ⟨b, b1, ?_⟩
    have hbl : b ∈ l' := (hmem b).2 (hO.closed c hcl n hn2 b b1)
    have hne : b ≠ q0 := fun e => by
      have := h.sym _ _ b1
      rw [e, hl0] at this; cases this
    rw [List.mem_erase_of_ne hne]
    exact hbl
  have hmn : ((nearL p l').map fun n => (lk2 m n).getD (0, 0)).Nodup := by
    rw [List.Nodup, List.pairwise_map]
    refine List.Pairwise.imp_of_mem (fun {a b} ha hb hab e => ?_) (nearL_nodup p l')
    obtain ⟨x, x1, _⟩ := hmt a ha
    obtain ⟨y, y1, _⟩ := hmt b hb
    rw [x1, y1] at e
    simp only [Option.getD_some] at e
    have e1 := h.sym _ _ x1
    have e2 := h.sym _ _ y1
    rw [e, e2] at e1
    injection e1 with e1
    exact hab e1.symm
  have h1 := sub_len hmn (l' := l'.erase q0) (fun x hx => by
    obtain ⟨n, hn, rfl⟩ := List.mem_map.1 hx
    obtain ⟨b, b1, b2⟩ := hmt n hn
    rw [b1]; exact b2)
  rw [List.length_map, List.length_erase_of_mem hq0] at h1
  omega
end Go.Proofs.YtcdhimnmbpllgaaDoor

namespace Go.Proofs.YtcdhimnmbpllgaaDoor
set_option linter.unusedVariables false
set_option linter.unusedSimpArgs false
set_option maxHeartbeats 1000000

abbrev Pt := Nat × Nat
/-- Neighbours. -/
def adjP (a b : Pt) : Prop := (a.1 = b.1 ∧ (a.2 + 1 = b.2 ∨ b.2 + 1 = a.2)) ∨ (a.2 = b.2 ∧ (a.1 + 1 = b.1 ∨ b.1 + 1 = a.1))
theorem adjP.symm {a b : Pt} (h : adjP a b) : adjP b a := by unfold adjP at *; omega
theorem adjP.ne {a b : Pt} (h : adjP a b) : a ≠ b := by
  intro e
  subst e
  unfold adjP at h
  omega
/-- A perfect matching of a grid's cells. -/
def PMf (f : Nat → Nat → Bool) (μ : Pt → Pt) : Prop := ∀ x y, f x y = true → f (μ (x, y)).1 (μ (x, y)).2 = true ∧ adjP (x, y) (μ (x, y)) ∧ μ (μ (x, y)) = (x, y)
theorem offF_tt {f : Nat → Nat → Bool} {X Y x y : Nat} : offF f X Y x y = true ↔ f x y = true ∧ ¬ (x = X ∧ y = Y) := by
  by_cases h : x = X ∧ y = Y
  · rw [h.1, h.2, offF_eq]; simp
  · rw [offF_ne h]; simp [h]
theorem takF_tt {f : Nat → Nat → Bool} {X Y x y : Nat} {d : Bool} : takF f X Y d x y = true ↔ f x y = true ∧ ¬ (x = X ∧ y = Y) ∧ ¬ (x = onX X d ∧ y = onY Y d) := by
  unfold takF
  rw [offF_tt, offF_tt, and_assoc]
theorem fits_tt {f : Nat → Nat → Bool} {W H X Y : Nat} {d : Bool} : fitsB f W H X Y d = true ↔ onY Y d < H ∧ onX X d < W ∧ f X Y = true ∧ f (onX X d) (onY Y d) = true := by
  unfold fitsB
  simp [Bool.and_eq_true]
section
variable {W H : Nat}
/-- Where the first domino of a matched grid lies. -/
theorem pm_first {f : Nat → Nat → Bool} {μ : Pt → Pt} {at' : Nat} (hW : 1 ≤ W) (hf : ∀ x y, f x y = true → x < W ∧ y < H) (hb : ∀ i, i < at' → f (i % W) (i / W) = false) (hfree : f (at' % W) (at' / W) = true) (hm : PMf f μ) :
    ∃ d, fitsB f W H (at' % W) (at' / W) d = true ∧ μ (at' % W, at' / W) = (onX (at' % W) d, onY (at' / W) d) := by
  obtain ⟨h1, h2, h3⟩ := hm _ _ hfree
  obtain ⟨a, b, hab⟩ : ∃ a b, μ (at' % W, at' / W) = (a, b) := ⟨_, _, rfl⟩
  rw [hab] at h1 h2
  simp only at h1
  obtain ⟨ha, hb'⟩ := hf a b h1
  have hpos : ¬ (b * W + a < at') := fun hlt => by
    have h := hb _ hlt
    rw [Nat.mul_comm, Nat.mul_add_mod, Nat.mod_eq_of_lt ha, Nat.mul_add_div (by omega), Nat.div_eq_of_lt ha, Nat.add_zero, h1] at h
    cases h
  have hx : at' % W < W := Nat.mod_lt _ (by omega)
  have hdm : at' / W * W + at' % W = at' := by rw [Nat.mul_comm]; exact Nat.div_add_mod at' W
  unfold adjP at h2
  simp only at h2
  rcases h2 with ⟨e1, e2 | e2⟩ | ⟨e1, e2 | e2⟩
  · refine ⟨true, fits_tt.2 ⟨?_, ?_, hfree, ?_⟩, ?_⟩
    · show at' / W + 1 < H; omega
    · exact hx
    · show f (at' % W) (at' / W + 1) = true
      rw [e2, e1]; exact h1
    · rw [hab]; show _ = (at' % W, at' / W + 1)
      rw [e2, e1]
  · exfalso
    apply hpos
    rw [← e2, Nat.succ_mul] at hdm
    omega
  · refine ⟨false, fits_tt.2 ⟨?_, ?_, hfree, ?_⟩, ?_⟩
    · show at' / W < H; omega
    · show at' % W + 1 < W; omega
    · show f (at' % W + 1) (at' / W) = true
      rw [e2, e1]; exact h1
    · rw [hab]; show _ = (at' % W + 1, at' / W)
      rw [e2, e1]
  · exfalso
    apply hpos
    rw [← e1]
    omega
theorem pm_tak {f : Nat → Nat → Bool} {μ : Pt → Pt} {X Y : Nat} {d : Bool} (hfree : f X Y = true) (hm : PMf f μ) (h : μ (X, Y) = (onX X d, onY Y d)) : PMf (takF f X Y d) μ := fun x y hxy => by
  obtain ⟨h1, h2, h3⟩ := takF_tt.1 hxy
  obtain ⟨k1, k2, k3⟩ := hm x y h1
  refine ⟨takF_tt.2 ⟨k1, fun e => h3 ?_, fun e => h2 ?_⟩, k2, k3⟩
  · have : μ (x, y) = (X, Y) := Prod.ext e.1 e.2
    rw [this, h] at k3
    injection k3 with k4 k5
    exact ⟨k4.symm, k5.symm⟩
  · have e1 : μ (x, y) = (onX X d, onY Y d) := Prod.ext e.1 e.2
    have e2 := (hm X Y hfree).2.2
    rw [h, ← e1, k3] at e2
    injection e2 with e3 e4
    exact ⟨e3, e4⟩
/-- A matched grid has a tiling. -/
theorem pm_cnt (hW : 1 ≤ W) : ∀ (k at' : Nat) (f : Nat → Nat → Bool) (μ : Pt → Pt), at' + k = W * H → (∀ x y, f x y = true → x < W ∧ y < H) → (∀ i, i < at' → f (i % W) (i / W) = false) → PMf f μ → 0 < cntF W f (W * H) 0 0
  | 0, at', f, μ, hk, hf, hb, hm => by
    rw [cnt_skip at' 0 hk hb]
    exact Nat.one_pos
  | k + 1, at', f, μ, hk, hf, hb, hm => by
    by_cases hfree : f (at' % W) (at' / W) = true
    · obtain ⟨d, hd1, hd2⟩ := pm_first hW hf hb hfree hm
      have ih := pm_cnt hW k (at' + 1) (takF f (at' % W) (at' / W) d) μ (by omega) (fun x y h => hf x y (takF_in h)) (tak_before d hb) (pm_tak hfree hm hd2)
      rw [cnt_first (k := k) hW hf hk hb hfree]
      cases d with
      | false => rw [if_pos hd1]; omega
      | true => rw [if_pos hd1]; omega
    · refine pm_cnt hW k (at' + 1) f μ (by omega) hf (fun i hi => ?_) hm
      by_cases e : i = at'
      · subst e; simpa using hfree
      · exact hb i (by omega)
/-- A domino put onto a matching. -/
def putM (μ : Pt → Pt) (a b : Pt) (q : Pt) : Pt := if q = a then b else if q = b then a else μ q
theorem pm_put {f : Nat → Nat → Bool} {μ : Pt → Pt} {X Y : Nat} {d : Bool} (h1 : f X Y = true) (h2 : f (onX X d) (onY Y d) = true) (hm : PMf (takF f X Y d) μ) : PMf f (putM μ (X, Y) (onX X d, onY Y d)) := fun x y hxy => by
  have hadj : adjP (X, Y) (onX X d, onY Y d) := by unfold adjP onX onY; cases d <;> simp
  have hne := hadj.ne
  by_cases e1 : (x, y) = (X, Y)
  · injection e1 with e2 e3
    subst e2; subst e3
    unfold putM
    rw [if_pos rfl]
    refine ⟨h2, hadj, ?_⟩
    rw [if_neg (Ne.symm hne), if_pos rfl]
  · by_cases e2 : (x, y) = (onX X d, onY Y d)
    · unfold putM
      rw [if_neg e1, if_pos e2]
      refine ⟨h1, by rw [e2]; exact hadj.symm, ?_⟩
      rw [if_pos rfl]; exact e2.symm
    · obtain ⟨k1, k2, k3⟩ := hm x y (takF_tt.2 ⟨hxy, fun e => e1 (Prod.ext e.1 e.2), fun e => e2 (Prod.ext e.1 e.2)⟩)
      obtain ⟨k4, k5, k6⟩ := takF_tt.1 k1
      unfold putM
      rw [if_neg e1, if_neg e2]
      refine ⟨k4, k2, ?_⟩
      rw [if_neg (fun e => k5 ⟨congrArg Prod.fst e, congrArg Prod.snd e⟩), if_neg (fun e => k6 ⟨congrArg Prod.fst e, congrArg Prod.snd e⟩), k3]
/-- A grid with a tiling is matched. -/
theorem cnt_pm (hW : 1 ≤ W) : ∀ (k at' : Nat) (f : Nat → Nat → Bool), at' + k = W * H → (∀ x y, f x y = true → x < W ∧ y < H) → (∀ i, i < at' → f (i % W) (i / W) = false) → 0 < cntF W f (W * H) 0 0 → ∃ μ, PMf f μ
  | 0, at', f, hk, hf, hb, h => by
    refine ⟨id, fun x y hxy => ?_⟩
    exfalso
    obtain ⟨hx, hy⟩ := hf x y hxy
    have h5 := Nat.mul_le_mul_right W (show y + 1 ≤ H from hy)
    rw [Nat.succ_mul, Nat.mul_comm H W] at h5
    have := hb (y * W + x) (by omega)
    rw [Nat.mul_comm, Nat.mul_add_mod, Nat.mod_eq_of_lt hx, Nat.mul_add_div (by omega), Nat.div_eq_of_lt hx, Nat.add_zero, hxy] at this
    cases this
  | k + 1, at', f, hk, hf, hb, h => by
    by_cases hfree : f (at' % W) (at' / W) = true
    · rw [cnt_first (k := k) hW hf hk hb hfree] at h
      have : ∃ d, fitsB f W H (at' % W) (at' / W) d = true ∧ 0 < cntF W (takF f (at' % W) (at' / W) d) (W * H) 0 0 := by
        by_cases h1 : fitsB f W H (at' % W) (at' / W) false = true ∧ 0 < cntF W (takF f (at' % W) (at' / W) false) (W * H) 0 0
        · exact ⟨false, h1⟩
        · refine ⟨true, ?_⟩
          have e1 : (if fitsB f W H (at' % W) (at' / W) false = true then cntF W (takF f (at' % W) (at' / W) false) (W * H) 0 0 else 0) = 0 := by
            split
            · rename_i h2
              rcases Nat.eq_zero_or_pos (cntF W (takF f (at' % W) (at' / W) false) (W * H) 0 0) with h3 | h3
              · exact h3
              · exact absurd ⟨h2, h3⟩ h1
            · rfl
          rw [e1, Nat.zero_add] at h
          split at h
          · rename_i h2; exact ⟨h2, h⟩
          · omega
      obtain ⟨d, hd1, hd2⟩ := this
      obtain ⟨μ, hμ⟩ := cnt_pm hW k (at' + 1) (takF f (at' % W) (at' / W) d) (by omega) (fun x y h => hf x y (takF_in h)) (tak_before d hb) hd2
      exact ⟨_, pm_put hfree (fits_tt.1 hd1).2.2.2 hμ⟩
    · refine cnt_pm hW k (at' + 1) f (by omega) hf (fun i hi => ?_) h
      by_cases e : i = at'
      · subst e; simpa using hfree
      · exact hb i (by omega)
/-- A grid has a tiling exactly if it is matched. -/
theorem cnt_iff {f : Nat → Nat → Bool} (hW : 1 ≤ W) (hf : ∀ x y, f x y = true → x < W ∧ y < H) : 0 < cntF W f (W * H) 0 0 ↔ ∃ μ, PMf f μ :=
  ⟨cnt_pm hW (W * H) 0 f (Nat.zero_add _) hf (fun i hi => by omega), fun ⟨μ, h⟩ => pm_cnt hW (W * H) 0 f μ (Nat.zero_add _) hf (fun i hi => by omega) h⟩
end
end Go.Proofs.YtcdhimnmbpllgaaDoor

namespace Go.Proofs.YtcdhimnmbpllgaaDoor
set_option linter.unusedVariables false
set_option linter.unusedSimpArgs false
set_option maxHeartbeats 1000000

theorem idxM_cases (m : Mates) (l : List Cl) : (idxM m l = -1 ∧ ∀ q ∈ l, lk2 m q ≠ none) ∨ ∃ (i : Nat) (q : Cl), idxM m l = (i : Int) ∧ l[i]? = some q ∧ lk2 m q = none := by
  unfold idxM
  cases h : l.findIdx? (noM m) with
  | none =>
    refine .inl ⟨rfl, fun q hq e => ?_⟩
    have := List.findIdx?_eq_none_iff.1 h q hq
    unfold noM at this
    rw [e] at this
    cases this
  | some i =>
    obtain ⟨hi, h1, _⟩ := List.findIdx?_eq_some_iff_getElem.1 h
    refine .inr ⟨i, l[i], rfl, List.getElem?_eq_getElem hi, ?_⟩
    unfold noM at h1
    exact Option.isNone_iff_eq_none.1 h1
theorem nbr_iff {p : List ByteArray} {q a : Cl} : a ∈ nbrsL p q ↔ inR p a ∧ ((q.1 = a.1 ∧ (q.2 + 1 = a.2 ∨ a.2 + 1 = q.2)) ∨ (q.2 = a.2 ∧ (q.1 + 1 = a.1 ∨ a.1 + 1 = q.1))) := by
  constructor
  · intro h
    refine ⟨nbr_in h, ?_⟩
    obtain ⟨_, k, hk, rfl⟩ := mem_nbrs h
    have : k = 0 ∨ k = 1 ∨ k = 2 ∨ k = 3 := by omega
    rcases this with rfl | rfl | rfl | rfl <;> simp [dxN, dyN] <;> omega
  · rintro ⟨h, hq⟩
    unfold nbrsL nbrsK
    have key : ∀ i, i < 4 → a = (q.1 + dxN i, q.2 + dyN i) → a ∈ ((List.range 4).filter fun i => hsI p (q.1 + dxN i) (q.2 + dyN i)).map fun i => (q.1 + dxN i, q.2 + dyN i) := fun i hi e => by
      refine List.mem_map.2 ⟨i, List.mem_filter.2 ⟨List.mem_range.2 hi, ?_⟩, e.symm⟩
      have h' : hsI p a.1 a.2 = true := h
      rw [e] at h'
      exact h'
    have e : ∃ i, i < 4 ∧ a = (q.1 + dxN i, q.2 + dyN i) := by
      rcases hq with ⟨h1, h2 | h2⟩ | ⟨h1, h2 | h2⟩
      · first
          | exact ⟨0, by omega, Prod.ext (by simp [dxN]; omega) (by simp [dyN]; omega)⟩
          | exact ⟨1, by omega, Prod.ext (by simp [dxN]; omega) (by simp [dyN]; omega)⟩
          | exact ⟨2, by omega, Prod.ext (by simp [dxN]; omega) (by simp [dyN]; omega)⟩
          | exact ⟨3, by omega, Prod.ext (by simp [dxN]; omega) (by simp [dyN]; omega)⟩
      · first
          | exact ⟨0, by omega, Prod.ext (by simp [dxN]; omega) (by simp [dyN]; omega)⟩
          | exact ⟨1, by omega, Prod.ext (by simp [dxN]; omega) (by simp [dyN]; omega)⟩
          | exact ⟨2, by omega, Prod.ext (by simp [dxN]; omega) (by simp [dyN]; omega)⟩
          | exact ⟨3, by omega, Prod.ext (by simp [dxN]; omega) (by simp [dyN]; omega)⟩
      · first
          | exact ⟨0, by omega, Prod.ext (by simp [dxN]; omega) (by simp [dyN]; omega)⟩
          | exact ⟨1, by omega, Prod.ext (by simp [dxN]; omega) (by simp [dyN]; omega)⟩
          | exact ⟨2, by omega, Prod.ext (by simp [dxN]; omega) (by simp [dyN]; omega)⟩
          | exact ⟨3, by omega, Prod.ext (by simp [dxN]; omega) (by simp [dyN]; omega)⟩
      · first
          | exact ⟨0, by omega, Prod.ext (by simp [dxN]; omega) (by simp [dyN]; omega)⟩
          | exact ⟨1, by omega, Prod.ext (by simp [dxN]; omega) (by simp [dyN]; omega)⟩
          | exact ⟨2, by omega, Prod.ext (by simp [dxN]; omega) (by simp [dyN]; omega)⟩
          | exact ⟨3, by omega, Prod.ext (by simp [dxN]; omega) (by simp [dyN]; omega)⟩
    obtain ⟨i, hi, e⟩ := e
    exact key i hi e
def tN (q : Cl) : Pt := (q.1.toNat, q.2.toNat)
def tI (q : Pt) : Cl := ((q.1 : Int), (q.2 : Int))
theorem tI_tN {p : List ByteArray} {q : Cl} (h : inR p q) : tI (tN q) = q := by
  obtain ⟨h1, h2, _, _⟩ := hsI_in h
  exact Prod.ext (Int.toNat_of_nonneg h1) (Int.toNat_of_nonneg h2)
theorem tN_tI (q : Pt) : tN (tI q) = q := rfl
theorem inR_tI {p : List ByteArray} {q : Pt} : inR p (tI q) ↔ hsR p q.1 q.2 = true := Iff.rfl
theorem adj_tI {p : List ByteArray} {a b : Pt} : tI b ∈ nbrsL p (tI a) ↔ hsR p b.1 b.2 = true ∧ adjP a b := by
  rw [nbr_iff]
  refine and_congr Iff.rfl ?_
  unfold tI adjP
  simp only
  omega
theorem cnt_pmf {p : List ByteArray} (hp : RegOk p) : 0 < cntF (wd p) (hsR p) (wd p * p.length) 0 0 ↔ ∃ μ, PMf (hsR p) μ :=
  cnt_iff hp.w1 (fun x y h => hsR_in x y h)
theorem pm_all {p : List ByteArray} {m : Mates} (hp : RegOk p) (hI : TInv p [] m) (hS : SymM m) (hA : AdjM p m) (hall : ∀ q ∈ cellsL p, lk2 m q ≠ none) : 0 < cntF (wd p) (hsR p) (wd p * p.length) 0 0 := by
  rw [cnt_pmf hp]
  refine ⟨fun q => tN ((lk2 m (tI q)).getD (0, 0)), fun x y hxy => ?_⟩
  have hin : inR p (tI (x, y)) := hxy
  cases hl : lk2 m (tI (x, y)) with
  | none => exact absurd hl (hall _ (mem_cells.2 hin))
  | some b =>
    have hb := hI.val _ _ hl
    have hbb := tI_tN hb
    have hab := hA _ _ hl
    have e : tN ((lk2 m (tI (x, y))).getD (0, 0)) = tN b := by rw [hl]; rfl
    show hsR p (tN ((lk2 m (tI (x, y))).getD (0, 0))).1 (tN ((lk2 m (tI (x, y))).getD (0, 0))).2 = true ∧ adjP (x, y) (tN ((lk2 m (tI (x, y))).getD (0, 0))) ∧ tN ((lk2 m (tI (tN ((lk2 m (tI (x, y))).getD (0, 0))))).getD (0, 0)) = (x, y)
    rw [e]
    have h1 := adj_tI.1 (show tI (tN b) ∈ nbrsL p (tI (x, y)) by rw [hbb]; exact hab)
    refine ⟨h1.1, h1.2, ?_⟩
    rw [show tI (tN b) = b from hbb, hS _ _ hl]
    rfl
theorem okL_spec {p : List ByteArray} {b : Bool} : ∀ (l : List Cl) (prev : Option Cl), okL p b prev l = true → (∀ x ∈ l, inR p x) ∧ l.Pairwise (fun x y => rdC x y < 0) ∧ (∀ x ∈ l, ordC prev x = true)
  | [], _, _ => ⟨fun x hx => (by cases hx), List.Pairwise.nil, fun x hx => (by cases hx)⟩
  | c :: t, prev, h => by
    unfold okL okR at h
    simp only [Bool.and_eq_true] at h
    obtain ⟨⟨h1, h2, h3⟩, h4⟩ := h
    obtain ⟨k1, k2, k3⟩ := okL_spec t (some c) h4
    have k3' : ∀ x ∈ t, rdC c x < 0 := fun x hx => of_decide_eq_true (k3 x hx)
    refine ⟨fun x hx => ?_, List.pairwise_cons.2 ⟨k3', k2⟩, fun x hx => ?_⟩
    · rcases List.mem_cons.1 hx with rfl | hx
      · exact h1
      · exact k1 x hx
    · rcases List.mem_cons.1 hx with rfl | hx
      · exact h3
      · cases prev with
        | none => rfl
        | some e =>
          have e1 : rdC e c < 0 := of_decide_eq_true h3
          have e2 := k3' x hx
          refine decide_eq_true ?_
          rw [rdC_lt] at *
          omega
theorem ref_zero {p : List ByteArray} (hp : RegOk p) {l : List Cl} (h : refB p l = true) : cntF (wd p) (hsR p) (wd p * p.length) 0 0 = 0 := by
  refine Nat.eq_zero_of_not_pos fun hpos => ?_
  obtain ⟨μ, hμ⟩ := (cnt_pmf hp).1 hpos
  unfold refB at h
  rw [Bool.and_eq_true] at h
  obtain ⟨k1, k2, _⟩ := okL_spec l none h.1
  have hn : l.Nodup := by
    refine List.Pairwise.imp (fun {a b} hab e => ?_) k2
    rw [rdC_lt, e] at hab
    omega
  have hlt := of_decide_eq_true h.2
  have hmn : (l.map fun c => tI (μ (tN c))).Nodup := by
    rw [List.Nodup, List.pairwise_map]
    refine List.Pairwise.imp_of_mem (fun {a b} ha hb hab e => ?_) hn
    have ia := k1 a ha
    have ib := k1 b hb
    have e1 := (hμ _ _ (show hsR p (tN a).1 (tN a).2 = true from by rw [← tI_tN ia] at ia; exact ia)).2.2
    have e2 := (hμ _ _ (show hsR p (tN b).1 (tN b).2 = true from by rw [← tI_tN ib] at ib; exact ib)).2.2
    have e3 : μ (tN a) = μ (tN b) := congrArg tN e
    have e4 : tN a = tN b := by
      have e1' : μ (μ (tN a)) = tN a := e1
      have e2' : μ (μ (tN b)) = tN b := e2
      rw [← e1', ← e2', e3]
    exact hab (by rw [← tI_tN ia, ← tI_tN ib, e4])
  have h1 := sub_len hmn (l' := nearL p l) (fun x hx => by
    obtain ⟨c, hc, rfl⟩ := List.mem_map.1 hx
    have ic := k1 c hc
    have hm := hμ _ _ (show hsR p (tN c).1 (tN c).2 = true from by rw [← tI_tN ic] at ic; exact ic)
    refine nearL_mem.2 ⟨c, hc, ?_⟩
    have := adj_tI.2 ⟨hm.1, hm.2.1⟩
    rw [show tI ((tN c).1, (tN c).2) = c from tI_tN ic] at this
    exact this)
  rw [List.length_map] at h1
  omega
end Go.Proofs.YtcdhimnmbpllgaaDoor

namespace Go.Proofs.YtcdhimnmbpllgaaDoor
open Go.RowKit
set_option linter.unusedVariables false
set_option linter.unusedSimpArgs false
set_option maxHeartbeats 4000000
set_option maxRecDepth 100000

/-- What Refute answers. -/
def RefPost (p : List ByteArray) (w : World) (e : Ending) (w' : World) : Prop := ∃ (l : List Cl) (A : Option Addr) (c : Nat) (m : MS) (er : Int), e = .returned (.tuple #[.slice A l.length c, .int .i64 er]) ∧ Cls l (.slice A l.length c) m ∧ l.length ≤ 64 ∧ (∀ M, Has w M → Has w' (m + M)) ∧ Ext w w' ∧ (isReg p = false → l = [] ∧ er = 2) ∧ (isReg p = true → 0 < cntV p → l = [] ∧ er = 10) ∧ (isReg p = true → cntV p = 0 → er = 0 ∧ refB p l = true)
section
variable {F : MS} {p : List ByteArray} {A : Option Addr} {c : Nat} {w : World} (hr : RdS F RT.str p (.slice A p.length c)) (hl : p.length ≤ 1000) (hs : ∀ s ∈ p, s.size ≤ 1000000)
include hr hl hs
theorem refute_all (hf : FourOk F) (hH : Has w F) : Calls Tryd.prog 19 #[.slice A p.length c] w (RefPost p w) := by
  cases hq : isReg p with
  | false =>
    refine (refu_no hr hl hs hH hq).mono ?_
    rintro e w' ⟨rfl, k⟩
    exact ⟨[], none, 0, 0, 2, rfl, Cls.nil, by simp, fun M hM => by rw [MS.zero_add]; exact k.1 M hM, k.2, fun _ => ⟨rfl, rfl⟩, fun h => (by rw [hq] at h; cases h), fun h => (by rw [hq] at h; cases h)⟩
  | true =>
    have hp := (isReg.ok hq).1
    obtain ⟨X, hM⟩ := mat_ok hp
    have hcv : cntV p = cntF (wd p) (hsR p) (wd p * p.length) 0 0 := by unfold cntV waysV; rw [hq, if_pos rfl, Nat.sub_zero]
    rcases idxM_cases (matF p) (cellsL p) with ⟨h1, h2⟩ | ⟨i, q0, h1, h2, h3⟩
    · have hpos := pm_all hp hM.inv hM.sym hM.adj h2
      rw [← hcv] at hpos
      refine (refu_few hr hl hs hf hH hq h1).mono ?_
      rintro e w' ⟨rfl, k⟩
      exact ⟨[], none, 0, 0, 10, rfl, Cls.nil, by simp, fun M hM => by rw [MS.zero_add]; exact k.1 M hM, k.2, fun h => (by rw [hq] at h; cases h), fun _ _ => ⟨rfl, rfl⟩, fun _ h => (by omega)⟩
    · obtain ⟨G, g1, g2, g3⟩ := good_set hM (mem_cells.1 (List.mem_of_getElem? h2)) h3
      refine (refu_yes hr hl hs hf hH hq h2 h1 G g1 g2).mono ?_
      rintro e w' ⟨v, m, l, l', rfl, hC, hO, hP, hS, k1, k2⟩
      have href := ref_ok hM h3 g2 g3 hO hP hS
      have hz := ref_zero hp href
      rw [← hcv] at hz
      obtain ⟨A', c', rfl, _⟩ := SlR.form hC
      have h64 : l'.length ≤ 64 := by
        rw [hP.length_eq]
        exact inR_len hp hO.nd (fun x hx => (g2 x (hO.good x hx)).1)
      exact ⟨l', A', c', m, 0, rfl, hC, h64, k1, k2, fun h => (by rw [hq] at h; cases h), fun _ h => (by omega), fun _ _ => ⟨rfl, href⟩⟩
theorem refc_any (hH : Has w F) : Calls Tryd.prog 14 #[.slice A p.length c] w fun e w' => e = .returned (.tuple #[.int .i64 (cntV p), .int .i64 (cntE p)]) ∧ Kp w w' := by
  have Hreg := hid (region_kp hr hl hs hH)
  cases hq : isReg p with
  | false =>
    have e1 : cntV p = 0 := by unfold cntV; rw [hq]; rfl
    have e2 : cntE p = 2 := by unfold cntE; rw [hq]; rfl
    rw [e1, e2]
    rw [hq] at Hreg
    clear hl hs hr hH hq e1 e2
    go_enter Tryd.func14, Tryd.ntmps14
    go_wp2_with (go_at_call 28; refine Hreg.out.mono ?_; rintro e1 w1 ⟨rfl, k1⟩; have K1 := hid k1; clear k1)
    go_ret2
    exact ⟨rfl, K1.out⟩
  | true =>
    have hp := (isReg.ok hq).1
    have e1 : cntV p = cntF (wd p) (hsR p) (wd p * p.length) 0 0 := by unfold cntV waysV; rw [hq, if_pos rfl, Nat.sub_zero]
    have e2 : cntE p = 0 := by unfold cntE; rw [hq]; rfl
    obtain ⟨N, hN⟩ : ∃ N, N = cntF (wd p) (hsR p) (wd p * p.length) 0 0 := ⟨_, rfl⟩
    rw [e1, e2, ← hN]
    have Hfree := hid (fun (W' : World) (h : Has W' F) => free_any hr hp h)
    have Hways := hid (fun (W' : World) (v : Value) (m : MS) (hG : Grid (gridK (hsR p) (wd p) p.length) v m) (h : Has W' m) => show ∃ b o c, v = .slice (some ⟨b, o, none⟩) p.length c ∧ Calls Tryd.prog 35 #[.slice (some ⟨b, o, none⟩) p.length c] W' fun e w' => e = .returned (.int .i64 N) ∧ Kp W' w' from by
      obtain ⟨b, o, c, rfl, _⟩ := Grid.form hG hp.h1
      have h2 := hG.rd
      have h3 := ways_any h2 (gridK_ok _ _ _) hp.w1 hp.w8 hp.h1 hp.h8 (fun x y h => hsR_in x y h) h
      rw [← hN] at h3
      exact ⟨b, o, c, rfl, h3⟩)
    rw [hq] at Hreg
    have HH := hid hH
    clear hl hs hr hH hq e1 e2 hN hp
    go_enter Tryd.func14, Tryd.ntmps14
    go_wp2_with (first
      | (go_at_call 35; refine hw.out.mono ?_; rintro e3 w3 ⟨rfl, k3⟩; have K3 := hid k3; clear k3)
      | (go_at_call 36; refine (Hfree.out w1 (K1.out.1 _ HH.out)).mono ?_; rintro e2 w2 ⟨v2, m2, rfl, g2, k2, l2⟩; obtain ⟨b4, o4, c4, rfl, hw⟩ := Hways.out w2 v2 m2 g2 (k2 _ (Has.zero w1)).left; have hw := hid hw; have K2 := hid k2; have L2 := hid l2; clear k2 l2 g2)
      | (go_at_call 28; refine Hreg.out.mono ?_; rintro e1 w1 ⟨rfl, k1⟩; have K1 := hid k1; clear k1))
    go_ret2
    exact ⟨rfl, fun M hM => K3.out.1 _ (K2.out _ (K1.out.1 _ hM)).right, (K1.out.2.trans L2.out).trans K3.out.2⟩
theorem rf_all {t : List Cl} {B : Option Addr} {ct : Nat} (ht : RdS F RT.cl t (.slice B t.length ct)) (htl : t.length ≤ 200) (hf : FourOk F) (hH : Has w F) :
    Calls Tryd.prog 17 #[.slice A p.length c, .slice B t.length ct] w fun e w' => e = .returned (.tuple #[.bool (isReg p && refB p t), .int .i64 (cntE p)]) ∧ Kp w w' := by
  cases hq : isReg p with
  | false =>
    have e2 : cntE p = 2 := by unfold cntE; rw [hq]; rfl
    rw [e2, Bool.false_and]
    exact rf_no hr hl hs hH hq
  | true =>
    have e2 : cntE p = 0 := by unfold cntE; rw [hq]; rfl
    rw [e2, Bool.true_and]
    exact rf_yes hr hl hs ht htl hf hH hq
end
end Go.Proofs.YtcdhimnmbpllgaaDoor
