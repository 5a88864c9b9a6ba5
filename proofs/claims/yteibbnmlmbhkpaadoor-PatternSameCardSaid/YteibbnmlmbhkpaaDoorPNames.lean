/-
  Plain: what the reference's list of symmetries tells, and that both names are one.
-/
import Derived.Test.YteibbnmlmbhkpaaDoorRW7
import Derived.Test.YteibbnmlmbhkpaaDoorPName
namespace Go.Proofs.YteibbnmlmbhkpaaDoor
open Go.RowKit
set_option linter.unusedVariables false
set_option linter.unusedSimpArgs false

def in14 (e : Int) : Prop := -14 ≤ e ∧ e ≤ 14
/-- What spread has. -/
theorem mem_spL {p : List ByteArray} {g : Gd} (hp : PatOk p) (hg : IsLat p g) (m : Mv) : m ∈ spL g (symL p g) ↔ ∃ (k : Nat) (e f : Int), k < 8 ∧ in14 e ∧ in14 f ∧ m = knd k e f ∧ Sy p k e f := by
  have hA := hg.a1
  have hD := hg.d1
  have key : ∀ (k : Nat) (r s e f : Int), k < 8 → Sy p k r s → (spC g (knd k r s) e f = true ↔ Sy p k e f) := fun k r s e f hk hs => by
    have h0 : (knd k r s).e = r ∧ (knd k r s).f = s := ⟨rfl, rfl⟩
    have hmod : (e - r).tmod g.A = 0 ↔ (e - r) % g.A = 0 := by
      rw [← Int.dvd_iff_tmod_eq_zero, ← Int.dvd_iff_emod_eq_zero]
    unfold spC
    rw [h0.1, h0.2, decide_eq_true_eq]
    have h1 : Sy p k e f ↔ Sy p 0 (e - r) (f - s) := ⟨fun h => h.diff hk hs, fun h => by
      have := hs.add hk h
      rwa [show r + (e - r) = e by omega, show s + (f - s) = f by omega] at this⟩
    rw [h1, hg.iff hp]
    constructor
    · rintro ⟨h2, h3⟩
      have h4 := hmod.1 h2
      have hdv : (g.A : Int) ∣ e - r := Int.dvd_of_emod_eq_zero h4
      rw [Int.tdiv_eq_ediv_of_dvd hdv] at h3
      refine ⟨h4, ?_⟩
      rw [← Int.dvd_iff_emod_eq_zero, Int.dvd_iff_tmod_eq_zero]
      exact h3
    · rintro ⟨h4, h3⟩
      have hdv : (g.A : Int) ∣ e - r := Int.dvd_of_emod_eq_zero h4
      refine ⟨hmod.2 h4, ?_⟩
      rw [Int.tdiv_eq_ediv_of_dvd hdv, ← Int.dvd_iff_tmod_eq_zero, Int.dvd_iff_emod_eq_zero]
      exact h3
  unfold spL spMv spRow
  simp only [List.mem_flatMap, List.mem_filterMap, List.mem_range, mem_symL hp hg]
  constructor
  · rintro ⟨m0, ⟨k, r, s, hk, hr, hs, rfl, hsy⟩, i, hi, j, hj, h1⟩
    unfold spF at h1
    split at h1
    · rename_i hc
      injection h1 with h1
      exact ⟨k, -14 + i, -14 + j, hk, by unfold in14; omega, by unfold in14; omega, h1.symm, (key k r s _ _ hk hsy).1 hc⟩
    · cases h1
  · rintro ⟨k, e, f, hk, he, hf, rfl, hsy⟩
    obtain ⟨r, s, hr, hs, h1, h2⟩ := hsy.class hp hg hk
    unfold in14 at he hf
    refine ⟨knd k r s, ⟨k, r, s, hk, hr, hs, rfl, h1⟩, (e + 14).toNat, by omega, (f + 14).toNat, by omega, ?_⟩
    rw [show -14 + ((e + 14).toNat : Int) = e by omega, show -14 + ((f + 14).toNat : Int) = f by omega]
    unfold spF
    rw [if_pos ((key k r s e f hk h1).2 hsy)]
    rfl

/-! ### Moved symmetries -/
/-- A symmetry, seen from a place moved by a translation. -/
theorem Sy.moved {p : List ByteArray} {k : Nat} (hk : k < 8) {e f s t : Int} (h : Sy p k e f) (ht : Sy p 0 s t) : Sy p k (e + (s - lX k s t)) (f + (t - lY k s t)) := by
  have h1 := ht.sub (by omega) (h.conj hk ht)
  exact h.add hk h1
theorem Sy.red {p : List ByteArray} (hp : PatOk p) {k : Nat} (hk : k < 8) {e f : Int} (h : Sy p k e f) : ∃ e' f', (0 ≤ e' ∧ e' ≤ 6) ∧ (0 ≤ f' ∧ f' ≤ 6) ∧ Sy p k e' f' := by
  have h1 := hp.w1
  have h2 := hp.w6
  have h3 := hp.h1
  have h4 := hp.h6
  have h5 := (h.sub hk (Sy.perX p (e / wd p))).sub hk (Sy.perY p (f / p.length))
  have e1 := Int.emod_def e (wd p)
  have e2 := Int.emod_def f p.length
  have e3 := Int.emod_nonneg e (show (wd p : Int) ≠ 0 by omega)
  have e4 := Int.emod_lt_of_pos e (show (0 : Int) < wd p by omega)
  have e5 := Int.emod_nonneg f (show (p.length : Int) ≠ 0 by omega)
  have e6 := Int.emod_lt_of_pos f (show (0 : Int) < p.length by omega)
  refine ⟨_, _, ?_, ?_, h5⟩ <;> omega
/-- A mirror of a kind near the middle. -/
theorem mir_red {p : List ByteArray} (hp : PatOk p) {k : Nat} (h4 : 4 ≤ k) (hk : k < 8) {e f : Int} (h : Sy p k e f) (ha : lineAlong k e f = 0) : ∃ e' f', (-6 ≤ e' ∧ e' ≤ 6) ∧ (-6 ≤ f' ∧ f' ≤ 6) ∧ Sy p k e' f' ∧ lineAlong k e' f' = 0 := by
  have h1 := hp.w1
  have h2 := hp.w6
  have h3 := hp.h1
  have h5 := hp.h6
  have e1 := Int.emod_def e (wd p)
  have e2 := Int.emod_def f p.length
  have e3 := Int.emod_nonneg e (show (wd p : Int) ≠ 0 by omega)
  have e4 := Int.emod_lt_of_pos e (show (0 : Int) < wd p by omega)
  have e5 := Int.emod_nonneg f (show (p.length : Int) ≠ 0 by omega)
  have e6 := Int.emod_lt_of_pos f (show (0 : Int) < p.length by omega)
  have hX := Sy.perX p (e / wd p)
  have hY := Sy.perY p (f / p.length)
  have h : k = 4 ∨ k = 5 ∨ k = 6 ∨ k = 7 := by omega
  rcases h with rfl | rfl | rfl | rfl
  · have ha' : e = 0 := ha
    have := h.sub hk hY
    exact ⟨_, _, by omega, by omega, this, by show e - 0 = 0; omega⟩
  · have ha' : f = 0 := ha
    have := h.sub hk hX
    exact ⟨_, _, by omega, by omega, this, by show f - 0 = 0; omega⟩
  · have ha' : e + f = 0 := ha
    have hc : Sy p 0 0 (wd p * (e / wd p)) := h.conj hk hX
    have := (h.sub hk hX).add hk hc
    refine ⟨_, _, by omega, by omega, this, ?_⟩
    show (e - wd p * (e / wd p) + 0) + (f - 0 + wd p * (e / wd p)) = 0
    omega
  · have ha' : e - f = 0 := ha
    have hc : Sy p 0 (-0) (-(wd p * (e / wd p))) := h.conj hk hX
    have := (h.sub hk hX).add hk hc
    refine ⟨_, _, by omega, by omega, this, ?_⟩
    show (e - wd p * (e / wd p) + -0) - (f - 0 + -(wd p * (e / wd p))) = 0
    omega
theorem anyM_iff {p : List ByteArray} {g : Gd} (hp : PatOk p) (hg : IsLat p g) {k : Nat} (h4 : 4 ≤ k) (hk : k < 8) : anyM p g k ↔ ∃ e f, Sy p k e f ∧ lineAlong k e f = 0 := by
  unfold anyM lnMir cMir
  constructor
  · rintro ⟨a, e, f, he, hf, h1, h2, h3⟩
    exact ⟨e, f, (hasB_iff hp hg hk e f).1 h1, h3⟩
  · rintro ⟨e, f, h1, h2⟩
    obtain ⟨e', f', he, hf, h3, h5⟩ := mir_red hp h4 hk h1 h2
    exact ⟨_, e', f', by unfold inR; omega, by unfold inR; omega, (hasB_iff hp hg hk e' f').2 h3, rfl, h5⟩
theorem anyL_iff {p : List ByteArray} {g : Gd} (hp : PatOk p) (hg : IsLat p g) : anyL p g ↔ ∃ k, 4 ≤ k ∧ k < 8 ∧ ∃ e f, Sy p k e f := by
  unfold anyL lnAll cAll
  constructor
  · rintro ⟨k, h4, hk, a, e, f, he, hf, h1, h2⟩
    exact ⟨k, h4, hk, e, f, (hasB_iff hp hg hk e f).1 h1⟩
  · rintro ⟨k, h4, hk, e, f, h1⟩
    obtain ⟨e', f', he, hf, h3⟩ := h1.red hp hk
    exact ⟨k, h4, hk, _, e', f', by unfold inR; omega, by unfold inR; omega, (hasB_iff hp hg hk e' f').2 h3, rfl⟩

/-! ### Points on mirrors -/
def OnM (p : List ByteArray) (x y : Int) : Prop := Sy p 4 0 y ∨ Sy p 5 x 0 ∨ (∃ e, 2 * e = x - y ∧ Sy p 6 e (-e)) ∨ (∃ e, 2 * e = x + y ∧ Sy p 7 e e)
theorem onP_iff {p : List ByteArray} {g : Gd} (hp : PatOk p) (hg : IsLat p g) {x y : Int} (hx : -30 ≤ x ∧ x ≤ 30) (hy : -30 ≤ y ∧ y ≤ 30) : onP p g x y ↔ OnM p x y := by
  unfold onP OnM lnMir cMir
  have hh := fun k hk e f => hasB_iff hp hg (k := k) hk e f
  constructor
  · rintro (⟨e, f, he, hf, h1, h2, h3⟩ | ⟨e, f, he, hf, h1, h2, h3⟩ | ⟨e, f, he, hf, h1, h2, h3⟩ | ⟨e, f, he, hf, h1, h2, h3⟩)
    · have h1' := (hh 4 (by omega) e f).1 h1
      have a : e = 0 := h3
      have b : f = y := h2
      subst a; subst b
      exact .inl h1'
    · have h1' := (hh 5 (by omega) e f).1 h1
      have a : f = 0 := h3
      have b : e = x := h2
      subst a; subst b
      exact .inr (.inl h1')
    · have h1' := (hh 6 (by omega) e f).1 h1
      have a : e + f = 0 := h3
      have b : e - f = x - y := h2
      refine .inr (.inr (.inl ⟨e, by omega, ?_⟩))
      rwa [show -e = f by omega]
    · have h1' := (hh 7 (by omega) e f).1 h1
      have a : e - f = 0 := h3
      have b : e + f = x + y := h2
      refine .inr (.inr (.inr ⟨e, by omega, ?_⟩))
      rwa [show f = e by omega] at h1'
  · rintro (h | h | ⟨e, h1, h⟩ | ⟨e, h1, h⟩)
    · exact .inl ⟨0, y, by unfold inR; omega, by unfold inR; omega, (hh 4 (by omega) _ _).2 h, rfl, rfl⟩
    · exact .inr (.inl ⟨x, 0, by unfold inR; omega, by unfold inR; omega, (hh 5 (by omega) _ _).2 h, rfl, rfl⟩)
    · exact .inr (.inr (.inl ⟨e, -e, by unfold inR; omega, by unfold inR; omega, (hh 6 (by omega) _ _).2 h, by show e - -e = x - y; omega, by show e + -e = 0; omega⟩))
    · exact .inr (.inr (.inr ⟨e, e, by unfold inR; omega, by unfold inR; omega, (hh 7 (by omega) _ _).2 h, by show e + e = x + y; omega, by show e - e = 0; omega⟩))
theorem isMir_knd {k : Nat} (hk : k < 8) (e f : Int) : isMir (knd k e f) = true ↔ 4 ≤ k ∧ lineAlong k e f = 0 := by
  unfold isMir
  rw [kindOf_knd k hk]
  have he : (knd k e f).e = e := rfl
  have hf : (knd k e f).f = f := rfl
  rw [he, hf]
  rcases k8_cases hk with rfl | rfl | rfl | rfl | rfl | rfl | rfl | rfl <;> simp [lineAlong] <;> omega
theorem onB_iff {p : List ByteArray} {g : Gd} (hp : PatOk p) (hg : IsLat p g) {x y : Int} (hx : 0 ≤ x ∧ x ≤ 12) (hy : 0 ≤ y ∧ y ≤ 12) : onB (spL g (symL p g)) x y = true ↔ OnM p x y := by
  unfold onB OnM
  rw [List.any_eq_true]
  constructor
  · rintro ⟨m, hm, h⟩
    obtain ⟨k, e, f, hk, he, hf, rfl, hs⟩ := (mem_spL hp hg m).1 hm
    rw [Bool.and_eq_true] at h
    obtain ⟨h1, h2⟩ := h
    obtain ⟨h4, h5⟩ := (isMir_knd hk e f).1 h1
    unfold fixB at h2
    rw [decide_eq_true_eq] at h2
    have : k = 4 ∨ k = 5 ∨ k = 6 ∨ k = 7 := by omega
    rcases this with rfl | rfl | rfl | rfl
    · have a : e = 0 := h5
      have b : 1 * x + 0 * y + 2 * e = x ∧ 0 * x + -1 * y + 2 * f = y := h2
      have : f = y := by omega
      subst a; subst this
      exact .inl hs
    · have a : f = 0 := h5
      have b : -1 * x + 0 * y + 2 * e = x ∧ 0 * x + 1 * y + 2 * f = y := h2
      have : e = x := by omega
      subst a; subst this
      exact .inr (.inl hs)
    · have a : e + f = 0 := h5
      have b : 0 * x + 1 * y + 2 * e = x ∧ 1 * x + 0 * y + 2 * f = y := h2
      refine .inr (.inr (.inl ⟨e, by omega, ?_⟩))
      rwa [show -e = f by omega]
    · have a : e - f = 0 := h5
      have b : 0 * x + -1 * y + 2 * e = x ∧ -1 * x + 0 * y + 2 * f = y := h2
      refine .inr (.inr (.inr ⟨e, by omega, ?_⟩))
      rwa [show f = e by omega] at hs
  · have mk : ∀ (k : Nat) (e f : Int), 4 ≤ k → k < 8 → in14 e → in14 f → Sy p k e f → lineAlong k e f = 0 → fixB (knd k e f) x y = true → ∃ m, m ∈ spL g (symL p g) ∧ (isMir m && fixB m x y) = true := fun k e f h4 hk he hf hs hl hfx =>
      ⟨knd k e f, (mem_spL hp hg _).2 ⟨k, e, f, hk, he, hf, rfl, hs⟩, by rw [(isMir_knd hk e f).2 ⟨h4, hl⟩, hfx]; rfl⟩
    rintro (h | h | ⟨e, h1, h⟩ | ⟨e, h1, h⟩)
    · exact mk 4 0 y (by omega) (by omega) (by unfold in14; omega) (by unfold in14; omega) h rfl (decide_eq_true (show 1 * x + 0 * y + 2 * 0 = x ∧ 0 * x + -1 * y + 2 * y = y by omega))
    · exact mk 5 x 0 (by omega) (by omega) (by unfold in14; omega) (by unfold in14; omega) h rfl (decide_eq_true (show -1 * x + 0 * y + 2 * x = x ∧ 0 * x + 1 * y + 2 * 0 = y by omega))
    · exact mk 6 e (-e) (by omega) (by omega) (by unfold in14; omega) (by unfold in14; omega) h (by show e + -e = 0; omega) (decide_eq_true (show 0 * x + 1 * y + 2 * e = x ∧ 1 * x + 0 * y + 2 * -e = y by omega))
    · exact mk 7 e e (by omega) (by omega) (by unfold in14; omega) (by unfold in14; omega) h (by show e - e = 0; omega) (decide_eq_true (show 0 * x + -1 * y + 2 * e = x ∧ -1 * x + 0 * y + 2 * e = y by omega))
/-- A point moved by twice a translation. -/
theorem OnM.moved {p : List ByteArray} {x y s t : Int} (h : OnM p x y) (ht : Sy p 0 s t) : OnM p (x + 2 * s) (y + 2 * t) := by
  rcases h with h | h | ⟨e, h1, h⟩ | ⟨e, h1, h⟩
  · have h1 := h.moved (by omega) ht
    simp only [lX, lY] at h1
    rw [show (0 : Int) + (s - s) = 0 by omega, show y + (t - -t) = y + 2 * t by omega] at h1
    exact .inl h1
  · have h1 := h.moved (by omega) ht
    simp only [lX, lY] at h1
    rw [show (0 : Int) + (t - t) = 0 by omega, show x + (s - -s) = x + 2 * s by omega] at h1
    exact .inr (.inl h1)
  · have h2 := h.moved (by omega) ht
    simp only [lX, lY] at h2
    rw [show -e + (t - s) = -(e + (s - t)) by omega] at h2
    exact .inr (.inr (.inl ⟨_, by omega, h2⟩))
  · have h2 := h.moved (by omega) ht
    simp only [lX, lY] at h2
    rw [show e + (t - -s) = e + (s - -t) by omega] at h2
    exact .inr (.inr (.inr ⟨_, by omega, h2⟩))
theorem OnM.moved_iff {p : List ByteArray} {x y s t : Int} (ht : Sy p 0 s t) : OnM p (x + 2 * s) (y + 2 * t) ↔ OnM p x y := by
  constructor
  · intro h
    have := h.moved ht.neg0
    rwa [show x + 2 * s + 2 * -s = x by omega, show y + 2 * t + 2 * -t = y by omega] at this
  · exact fun h => h.moved ht
/-- A place near the middle. -/
theorem near_red {p : List ByteArray} (hp : PatOk p) (x y : Int) : ∃ s t, Sy p 0 s t ∧ (0 ≤ x + 2 * s ∧ x + 2 * s ≤ 12) ∧ (0 ≤ y + 2 * t ∧ y + 2 * t ≤ 12) := by
  have h1 := hp.w1
  have h2 := hp.w6
  have h3 := hp.h1
  have h5 := hp.h6
  have e1 := Int.emod_def x (2 * wd p)
  have e2 := Int.emod_def y (2 * p.length)
  have e3 := Int.emod_nonneg x (show (2 * wd p : Int) ≠ 0 by omega)
  have e4 := Int.emod_lt_of_pos x (show (0 : Int) < 2 * wd p by omega)
  have e5 := Int.emod_nonneg y (show (2 * p.length : Int) ≠ 0 by omega)
  have e6 := Int.emod_lt_of_pos y (show (0 : Int) < 2 * p.length by omega)
  have hX := (Sy.perX p (-(x / (2 * wd p)))).add (by omega) (Sy.perY p (-(y / (2 * p.length))))
  refine ⟨_, _, hX, ?_, ?_⟩
  · rw [Int.mul_assoc] at e1
    rw [Int.mul_neg]
    generalize (wd p : Int) * (x / (2 * wd p)) = u at *
    omega
  · rw [Int.mul_assoc] at e2
    rw [Int.mul_neg]
    generalize (p.length : Int) * (y / (2 * p.length)) = u at *
    omega
end Go.Proofs.YteibbnmlmbhkpaaDoor
