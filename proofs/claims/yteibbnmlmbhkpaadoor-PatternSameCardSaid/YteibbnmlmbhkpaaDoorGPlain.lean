/-
  Plain: the list of symmetries as a group.
-/
import Derived.Test.YteibbnmlmbhkpaaDoorMW3
namespace Go.Proofs.YteibbnmlmbhkpaaDoor
open Go.RowKit
set_option linter.unusedVariables false
set_option linter.unusedSimpArgs false
set_option maxRecDepth 100000

/-! ### Few moves -/
theorem flat_one {α : Type} (f : Nat → List α) : ∀ (n : Nat), (∀ i, i < n → (f i).length ≤ 1) → (∀ i j, i < n → j < n → f i ≠ [] → f j ≠ [] → i = j) → ((List.range n).flatMap f).length ≤ 1
  | 0, _, _ => by simp
  | n + 1, h1, h2 => by
    rw [List.range_succ, List.flatMap_append, List.length_append]
    have ih := flat_one f n (fun i hi => h1 i (by omega)) (fun i j hi hj => h2 i j (by omega) (by omega))
    have hn := h1 n (by omega)
    simp only [List.flatMap_cons, List.flatMap_nil, List.append_nil]
    by_cases hf : f n = []
    · rw [hf]; simpa using ih
    · have : (List.range n).flatMap f = [] := by
        rw [List.flatMap_eq_nil_iff]
        intro i hi
        rw [List.mem_range] at hi
        apply Classical.byContradiction
        intro hne
        have := h2 i n (by omega) (by omega) hne hf
        omega
      rw [this]; simpa using hn
theorem flat_le {α : Type} (f : Nat → List α) : ∀ (n : Nat), (∀ i, i < n → (f i).length ≤ 1) → ((List.range n).flatMap f).length ≤ n
  | 0, _ => by simp
  | n + 1, h1 => by
    rw [List.range_succ, List.flatMap_append, List.length_append]
    have ih := flat_le f n (fun i hi => h1 i (by omega))
    have hn := h1 n (by omega)
    simp only [List.flatMap_cons, List.flatMap_nil, List.append_nil]
    omega
theorem filt_one {α : Type} (f : Nat → Option α) : ∀ (n : Nat), (∀ i j, i < n → j < n → f i ≠ none → f j ≠ none → i = j) → ((List.range n).filterMap f).length ≤ 1
  | 0, _ => by simp
  | n + 1, h2 => by
    rw [List.range_succ, List.filterMap_append, List.length_append]
    have ih := filt_one f n (fun i j hi hj => h2 i j (by omega) (by omega))
    by_cases hf : f n = none
    · rw [List.filterMap_cons_none hf]; simpa using ih
    · have : (List.range n).filterMap f = [] := by
        rw [List.filterMap_eq_nil_iff]
        intro i hi
        rw [List.mem_range] at hi
        apply Classical.byContradiction
        intro hne
        have := h2 i n (by omega) (by omega) hne hf
        omega
      obtain ⟨x, hx⟩ := Option.ne_none_iff_exists'.1 hf
      rw [this, List.filterMap_cons_some hx]; simp
theorem sym_same {p : List ByteArray} {g : Gd} (hp : PatOk p) (h : IsLat p g) {k e f e' f' : Nat} (hk : k < 8) (he : e < g.A) (hf : f < g.D) (he' : e' < g.A) (hf' : f' < g.D) (hs : Sy p k e f) (hs' : Sy p k e' f') : e = e' ∧ f = f' := by
  have h1 := (h.iff hp _ _).1 (hs.diff hk hs')
  have hA := h.a1
  have hD := h.d1
  have h2 : ((e : Int) - e') = 0 := by
    have := Int.emod_emod_of_dvd
    have hd := Int.dvd_of_emod_eq_zero h1.1
    obtain ⟨q, hq⟩ := hd
    rcases Int.lt_trichotomy q 0 with h3 | h3 | h3
    · have : (g.A : Int) * q ≤ g.A * (-1) := Int.mul_le_mul_of_nonneg_left (by omega) (by omega)
      omega
    · rw [h3] at hq; omega
    · have : (g.A : Int) * 1 ≤ g.A * q := Int.mul_le_mul_of_nonneg_left (by omega) (by omega)
      omega
  refine ⟨by omega, ?_⟩
  have h4 := h1.2
  rw [h2] at h4
  simp only [Int.zero_ediv, Int.zero_mul, Int.sub_zero] at h4
  obtain ⟨q, hq⟩ := Int.dvd_of_emod_eq_zero h4
  rcases Int.lt_trichotomy q 0 with h3 | h3 | h3
  · have : (g.D : Int) * q ≤ g.D * (-1) := Int.mul_le_mul_of_nonneg_left (by omega) (by omega)
    omega
  · rw [h3] at hq; omega
  · have : (g.D : Int) * 1 ≤ g.D * q := Int.mul_le_mul_of_nonneg_left (by omega) (by omega)
    omega
theorem symL_le {p : List ByteArray} {g : Gd} (hp : PatOk p) (h : IsLat p g) : (symL p g).length ≤ 8 := by
  have h6 := h.a6 hp
  unfold symL
  refine flat_le _ 8 fun k hk => ?_
  have hsy : ∀ e f : Nat, e < g.A → f < g.D → (if keepsB p (knd k e f) then some (knd k e f) else none) ≠ none → Sy p k e f := fun e f he hf hn => by
    split at hn
    · rename_i h2; exact (keepsB_iff hp hk (by omega) (by omega)).1 h2
    · exact absurd rfl hn
  refine flat_one _ _ (fun e he => filt_one _ _ fun i j hi hj h1 h2 => ?_) fun e e' he he' h1 h2 => ?_
  · exact (sym_same hp h hk he hi he hj (hsy _ _ he hi h1) (hsy _ _ he hj h2)).2
  · have hx : ∀ e : Nat, e < g.A → ((List.range g.D).filterMap fun (f : Nat) => if keepsB p (knd k e f) then some (knd k e f) else none) ≠ [] → ∃ f : Nat, f < g.D ∧ Sy p k e f := fun e he hne => by
      obtain ⟨m, hm⟩ := List.exists_mem_of_ne_nil _ hne
      obtain ⟨f, hf, h3⟩ := List.mem_filterMap.1 hm
      rw [List.mem_range] at hf
      exact ⟨f, hf, hsy e f he hf (by rw [h3]; simp)⟩
    obtain ⟨f, hf, hs⟩ := hx e he h1
    obtain ⟨f', hf', hs'⟩ := hx e' he' h2
    exact (sym_same hp h hk he hf he' hf' hs hs').1
theorem symL_one {p : List ByteArray} {g : Gd} (hp : PatOk p) (h : IsLat p g) : 1 ≤ (symL p g).length := by
  have : knd 0 0 0 ∈ symL p g := (mem_symL hp h _).2 ⟨0, 0, 0, by omega, by have := h.a1; omega, by have := h.d1; omega, rfl, Sy.zero p⟩
  exact List.length_pos_of_mem this
/-! ### One behind another one -/
theorem thenM_knd {k k' : Nat} (hk : k < 8) (hk' : k' < 8) {e f e' f' : Int} (he : -1000 ≤ e ∧ e ≤ 1000) (hf : -1000 ≤ f ∧ f ≤ 1000) (he' : -1000 ≤ e' ∧ e' ≤ 1000) (hf' : -1000 ≤ f' ∧ f' ≤ 1000) :
    thenM (knd k e f) (knd k' e' f') = knd (cmpK k' k) (lX k' e f + e') (lY k' e f + f') := by
  have h1 := knd_toX hk' e f e' f' he hf he'
  have h2 := knd_toY hk' e f e' f' he hf hf'
  unfold thenM
  rw [show (knd k e f).e = e from rfl, show (knd k e f).f = f from rfl, h1, h2]
  rcases k8_cases hk with rfl | rfl | rfl | rfl | rfl | rfl | rfl | rfl <;> rcases k8_cases hk' with rfl | rfl | rfl | rfl | rfl | rfl | rfl | rfl <;> simp [knd, kinds, cmpK, wrap64]
/-- Is a move of the class of another one (as the law's in asks)? -/
def inOne (g : Gd) (m c : Mv) : Bool := (kindOf c == kindOf m) && (((m.e - c.e).tmod g.A == 0) && (((m.f - c.f) - (m.e - c.e).tdiv g.A * g.B).tmod g.D == 0))
theorem in_class {p : List ByteArray} {g : Gd} (hp : PatOk p) (h : IsLat p g) {k : Nat} (hk : k < 8) {e f : Int} (hs : Sy p k e f) : ∃ r s : Nat, r < g.A ∧ s < g.D ∧ knd k r s ∈ symL p g ∧ inOne g (knd k e f) (knd k r s) = true := by
  obtain ⟨r, s, hr, hss, h1, h2⟩ := hs.class hp h hk
  refine ⟨r, s, hr, hss, (mem_symL hp h _).2 ⟨k, r, s, hk, hr, hss, rfl, h1⟩, ?_⟩
  obtain ⟨h3, h4⟩ := (h.iff hp _ _).1 h2
  have d1 := Int.dvd_of_emod_eq_zero h3
  have d2 := Int.dvd_of_emod_eq_zero h4
  unfold inOne
  rw [kindOf_knd k hk, kindOf_knd k hk]
  rw [show (knd k e f).e = e from rfl, show (knd k e f).f = f from rfl, show (knd k r s).e = r from rfl, show (knd k r s).f = s from rfl]
  rw [Int.tdiv_eq_ediv_of_dvd d1, Int.tmod_eq_zero_of_dvd d1, Int.tmod_eq_zero_of_dvd d2]
  simp
/-- What a law asks of each pair of moves. -/
structure PairOk (g : Gd) (l : List Mv) (a b : Mv) : Prop where
  inl : l.any (inOne g (thenM a b)) = true
  kind : ∃ k : Nat, k < 8 ∧ thenM a b = knd k (thenM a b).e (thenM a b).f
  e : -1000 ≤ (thenM a b).e ∧ (thenM a b).e ≤ 1000
  f : -1000 ≤ (thenM a b).f ∧ (thenM a b).f ≤ 1000
theorem lXY_small {k : Nat} {e f : Int} (he : 0 ≤ e ∧ e ≤ 6) (hf : 0 ≤ f ∧ f ≤ 6) : (-6 ≤ lX k e f ∧ lX k e f ≤ 6) ∧ (-6 ≤ lY k e f ∧ lY k e f ≤ 6) := by
  unfold lX lY
  constructor <;> split <;> omega
theorem pair_ok {p : List ByteArray} {g : Gd} (hp : PatOk p) (h : IsLat p g) {a b : Mv} (ha : a ∈ symL p g) (hb : b ∈ symL p g) : PairOk g (symL p g) a b := by
  obtain ⟨k, e, f, hk, he, hf, rfl, hs⟩ := (mem_symL hp h _).1 ha
  obtain ⟨k', e', f', hk', he', hf', rfl, hs'⟩ := (mem_symL hp h _).1 hb
  have h6 := h.a6 hp
  have ht := thenM_knd hk hk' (e := e) (f := f) (e' := e') (f' := f') (by omega) (by omega) (by omega) (by omega)
  have hc := hs'.comp hk' hk hs
  have hl := lXY_small (k := k') (e := e) (f := f) (by omega) (by omega)
  obtain ⟨r, s, hr, hss, hm, hi⟩ := in_class hp h (cmpK_lt hk' hk) hc
  refine ⟨?_, ⟨cmpK k' k, cmpK_lt hk' hk, ?_⟩, ?_, ?_⟩
  · rw [ht]; exact List.any_eq_true.2 ⟨_, hm, hi⟩
  · rw [ht]; rfl
  · rw [ht]; show -1000 ≤ lX k' e f + e' ∧ lX k' e f + e' ≤ 1000; omega
  · rw [ht]; show -1000 ≤ lY k' e f + f' ∧ lY k' e f + f' ≤ 1000; omega
/-- Each move has one that undoes it. -/
theorem pair_back {p : List ByteArray} {g : Gd} (hp : PatOk p) (h : IsLat p g) {a : Mv} (ha : a ∈ symL p g) : (symL p g).any (fun b => kindOf (thenM a b) == 0) = true := by
  obtain ⟨k, e, f, hk, he, hf, rfl, hs⟩ := (mem_symL hp h _).1 ha
  have h6 := h.a6 hp
  obtain ⟨r, s, hr, hss, hm, _⟩ := in_class hp h (invK_lt hk) (hs.inv hk)
  refine List.any_eq_true.2 ⟨_, hm, ?_⟩
  rw [thenM_knd hk (invK_lt hk) (by omega) (by omega) (by omega) (by omega), kindOf_knd _ (cmpK_lt (invK_lt hk) hk)]
  rcases k8_cases hk with rfl | rfl | rfl | rfl | rfl | rfl | rfl | rfl <;> rfl
/-! ### The floor after a symmetry -/
theorem ap_ok {p : List ByteArray} {g : Gd} (hq : isPat p = true) (h : IsLat p g) {a : Mv} (ha : a ∈ symL p g) : apOk p a = true := by
  have hp := (isPat.ok hq).1
  obtain ⟨k, e, f, hk, he, hf, rfl, hs⟩ := (mem_symL hp h _).1 ha
  have h6 := h.a6 hp
  unfold apOk
  rw [hq, kindOf_knd k hk, Bool.true_and, decide_eq_true_eq]
  exact ⟨by omega, by show -1000 ≤ (e : Int) ∧ (e : Int) ≤ 1000; omega, by show -1000 ≤ (f : Int) ∧ (f : Int) ≤ 1000; omega⟩
theorem un_of {k : Nat} (hk : k < 8) (e f x y : Int) : lX k (unX (knd k e f) x y) (unY (knd k e f) x y) + e = x ∧ lY k (unX (knd k e f) x y) (unY (knd k e f) x y) + f = y := by
  rcases k8_cases hk with rfl | rfl | rfl | rfl | rfl | rfl | rfl | rfl <;> simp [lX, lY, unX, unY, knd, kinds] <;> omega
/-- The cell that a symmetry takes to a cell has its colour. -/
theorem col_un {p : List ByteArray} {k : Nat} (hk : k < 8) {e f : Int} (hs : Sy p k e f) (x y : Int) : col p (unX (knd k e f) x y) (unY (knd k e f) x y) = col p x y := by
  have h1 := hs (unX (knd k e f) x y) (unY (knd k e f) x y)
  rw [(un_of hk e f x y).1, (un_of hk e f x y).2] at h1
  exact h1.symm
theorem ap_row {p : List ByteArray} (m : Mv) (y : Nat) : (apS p m y).size = apW p m := by
  unfold apS
  show (apRow p m y (apW p m)).toArray.size = _
  simp [apRow_len]
theorem ap_wd {p : List ByteArray} (hp : PatOk p) (m : Mv) : wd (apL p m (apH p m)) = apW p m := by
  obtain ⟨h, hh⟩ : ∃ h, apH p m = h + 1 := ⟨apH p m - 1, by have := (apWH hp m).2; omega⟩
  unfold wd apL
  rw [hh, List.range_succ_eq_map]
  exact ap_row m 0
theorem ap_getD {p : List ByteArray} (m : Mv) (n y : Nat) (hy : y < n) : (apL p m n).getD y empty = apS p m y := by
  unfold apL
  rw [List.getD_eq_getElem?_getD, List.getElem?_map, List.getElem?_range hy]; rfl
theorem ap_col {p : List ByteArray} (hp : PatOk p) (m : Mv) (x y : Int) : col (apL p m (apH p m)) x y = col p (unX m (x % apW p m) (y % apH p m)) (unY m (x % apW p m) (y % apH p m)) := by
  have h1 := apWH hp m
  have hx0 := Int.emod_nonneg x (show (apW p m : Int) ≠ 0 by omega)
  have hx1 := Int.emod_lt_of_pos x (show (0 : Int) < apW p m by omega)
  have hy0 := Int.emod_nonneg y (show (apH p m : Int) ≠ 0 by omega)
  have hy1 := Int.emod_lt_of_pos y (show (0 : Int) < apH p m by omega)
  rw [col_col8, col_col8]
  unfold col8
  rw [ap_wd hp, apL_len, ap_getD m _ _ (by omega)]
  congr 2
  unfold apS
  show (apRow p m _ (apW p m)).toArray.getD _ 0 = _
  rw [show (apRow p m (y % apH p m).toNat (apW p m)).toArray.getD (x % apW p m).toNat 0 = (apRow p m (y % apH p m).toNat (apW p m)).getD (x % apW p m).toNat 0 by simp [Array.getD_eq_getD_getElem?, List.getD_eq_getElem?_getD]]
  unfold apRow
  rw [List.getD_eq_getElem?_getD, List.getElem?_map, List.getElem?_range (by omega)]
  show col8 p _ _ = _
  rw [show (((x % apW p m).toNat : Nat) : Int) = x % apW p m by omega, show (((y % apH p m).toNat : Nat) : Int) = y % apH p m by omega]
  rfl
theorem ap_floor {p : List ByteArray} {g : Gd} (hp : PatOk p) (h : IsLat p g) {m : Mv} (hm : m ∈ symL p g) (x y : Int) : col (apL p m (apH p m)) x y = col p x y := by
  rw [ap_col hp]
  obtain ⟨k, e, f, hk, he, hf, rfl, hs⟩ := (mem_symL hp h _).1 hm
  rw [col_un hk hs]
  have hW : ∀ n : Int, Sy p 0 (apW p (knd k e f) * n) 0 := fun n => by
    unfold apW
    split
    · rename_i ha
      have h1 := hs.conj hk (Sy.perY p n)
      have h2 := (hs.conj hk (Sy.perY p (-n)))
      rcases k8_cases hk with rfl | rfl | rfl | rfl | rfl | rfl | rfl | rfl <;> simp [lX, lY, knd, kinds] at h1 h2 ha <;> first | exact h1 | (rw [show -((p.length : Int) * -n) = p.length * n by rw [Int.mul_neg, Int.neg_neg]] at h2; exact h2)
    · exact Sy.perX p n
  have hH : ∀ n : Int, Sy p 0 0 (apH p (knd k e f) * n) := fun n => by
    unfold apH
    split
    · rename_i ha
      have h1 := hs.conj hk (Sy.perX p n)
      have h2 := (hs.conj hk (Sy.perX p (-n)))
      rcases k8_cases hk with rfl | rfl | rfl | rfl | rfl | rfl | rfl | rfl <;> simp [lX, lY, knd, kinds] at h1 h2 ha <;> first | exact h1 | (rw [show -((wd p : Int) * -n) = wd p * n by rw [Int.mul_neg, Int.neg_neg]] at h2; exact h2)
    · exact Sy.perY p n
  have h1 := hW (x / apW p (knd k e f)) (x % apW p (knd k e f)) (y % apH p (knd k e f))
  have h2 := hH (y / apH p (knd k e f)) x (y % apH p (knd k e f))
  have e1 := Int.emod_add_mul_ediv x (apW p (knd k e f))
  have e2 := Int.emod_add_mul_ediv y (apH p (knd k e f))
  simp only [lX, lY, Int.add_zero] at h1 h2
  rw [e1] at h1
  rw [e2] at h2
  rw [← h1, ← h2]
theorem ap_isPat {p : List ByteArray} (hq : isPat p = true) (m : Mv) : isPat (apL p m (apH p m)) = true := by
  obtain ⟨hp, hab⟩ := isPat.ok hq
  have h1 := apWH hp m
  unfold isPat
  rw [ap_wd hp, apL_len, decide_eq_true (by omega), Bool.true_and, Bool.not_eq_true', List.any_eq_false]
  intro s hs
  obtain ⟨y, _, rfl⟩ := List.mem_map.1 hs
  unfold badRow
  rw [ap_row]
  have : abB (apS p m y) = true := by
    unfold abB apS
    rw [List.all_eq_true]
    intro b hb
    obtain ⟨x, _, rfl⟩ := List.mem_map.1 (show b ∈ apRow p m y (apW p m) by simpa using hb)
    have hl := hp.h1
    have hw := hp.w1
    have hy0 := Int.emod_nonneg (unY m x y) (show (p.length : Int) ≠ 0 by omega)
    have hy1 := Int.emod_lt_of_pos (unY m x y) (show (0 : Int) < p.length by omega)
    have hx0 := Int.emod_nonneg (unX m x y) (show (wd p : Int) ≠ 0 by omega)
    have hx1 := Int.emod_lt_of_pos (unX m x y) (show (0 : Int) < wd p by omega)
    unfold col8
    have hr := get_getD empty (show (unY m x y % p.length).toNat < p.length by omega)
    generalize p.getD _ empty = t at hr ⊢
    have htm := List.mem_of_getElem? hr
    have hsz : t.data.size = wd p := hp.rows t htm
    have h2 := (abB_iff t).1 (hab t htm)
    refine h2 _ ?_
    have hlt : (unX m x y % wd p).toNat < t.data.size := by rw [hsz]; omega
    rw [Array.getD_eq_getD_getElem?, Array.getElem?_eq_getElem hlt]
    exact Array.mem_toList_iff.2 (Array.getElem_mem hlt)
  rw [this]
  simp
end Go.Proofs.YteibbnmlmbhkpaaDoor
