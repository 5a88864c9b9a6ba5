/-
  Plain: both names are one.
-/
import Derived.Test.YteibbnmlmbhkpaaDoorPNames
import Derived.Test.YteibbnmlmbhkpaaDoorRW8
namespace Go.Proofs.YteibbnmlmbhkpaaDoor
open Go.RowKit
set_option linter.unusedVariables false
set_option linter.unusedSimpArgs false

/-- A glide near the middle; on one line. -/
def glB (m : Mv) : Bool := (decide (4 ≤ kindOf m) && !isMir m) && decide ((-7 ≤ m.e ∧ m.e ≤ 7) ∧ (-7 ≤ m.f ∧ m.f ≤ 7))
def smB (m n : Mv) : Bool := lineAt (kindOf m) m.e m.f == lineAt (kindOf m) n.e n.f
def mateB (m n : Mv) : Bool := kindOf n == kindOf m && (isMir n && smB m n)
/-- Has every glide near the middle the line of a mirror? -/
def ownL (l : List Mv) : Bool := l.all fun m => !glB m || l.any (mateB m)
/-- How many of four. -/
def cnt4 (a b c d : Bool) : Nat := a.toNat + b.toNat + c.toNat + d.toNat
/-- The name by what is gathered. -/
def nameG (o : Int) (fl mi a4 a5 a6 a7 al tu ow : Bool) : ByteArray :=
  if o = 4 then (if fl = false then txt [112, 52] else if tu = true then txt [112, 52, 109] else txt [112, 52, 103])
  else if o = 2 then (if fl = false then txt [112, 50] else if mi = false then txt [112, 103, 103] else if cnt4 a4 a5 a6 a7 = 1 then txt [112, 109, 103] else if al = true then txt [112, 109, 109] else txt [99, 109, 109])
  else (if fl = false then txt [112, 49] else if mi = false then txt [112, 103] else if ow = true then txt [112, 109] else txt [99, 109])
section
variable {p : List ByteArray} {g : Gd}
theorem kindOf_any (hp : PatOk p) (hg : IsLat p g) (k : Nat) (hk : k < 8) (q : Mv → Bool) (hq : ∀ e f, q (knd k e f) = true) (hq2 : ∀ m, q m = true → kindOf m = k) :
    ((spL g (symL p g)).any q = true ↔ ∃ e f, Sy p k e f) ∧ ((symL p g).any q = true ↔ ∃ e f, Sy p k e f) := by
  constructor
  · rw [List.any_eq_true]
    constructor
    · rintro ⟨m, hm, h⟩
      obtain ⟨k', e, f, hk', he, hf, rfl, hs⟩ := (mem_spL hp hg m).1 hm
      have := hq2 _ h
      rw [kindOf_knd k' hk'] at this
      obtain rfl : k' = k := by omega
      exact ⟨e, f, hs⟩
    · rintro ⟨e, f, hs⟩
      obtain ⟨e', f', he, hf, h1⟩ := hs.red hp hk
      exact ⟨_, (mem_spL hp hg _).2 ⟨k, e', f', hk, by unfold in14; omega, by unfold in14; omega, rfl, h1⟩, hq _ _⟩
  · rw [List.any_eq_true]
    constructor
    · rintro ⟨m, hm, h⟩
      obtain ⟨k', e, f, hk', he, hf, rfl, hs⟩ := (mem_symL hp hg m).1 hm
      have := hq2 _ h
      rw [kindOf_knd k' hk'] at this
      obtain rfl : k' = k := by omega
      exact ⟨_, _, hs⟩
    · rintro ⟨e, f, hs⟩
      obtain ⟨r, s, hr, hs', h1, _⟩ := hs.class hp hg hk
      exact ⟨_, (mem_symL hp hg _).2 ⟨k, r, s, hk, hr, hs', rfl, h1⟩, hq _ _⟩
theorem ordOf_eq (hp : PatOk p) (hg : IsLat p g) : ordOf (spL g (symL p g)) = ordOf (symL p g) := by
  have h := fun (k : Nat) (hk : k < 8) => kindOf_any hp hg k hk (fun m => kindOf m == k) (fun e f => by rw [kindOf_knd k hk]; simp) (fun m hm => by simpa using hm)
  have hor : ∀ l : List Mv, l.any (fun m => kindOf m == 1 || kindOf m == 3) = (l.any (fun m => kindOf m == (1 : Nat)) || l.any (fun m => kindOf m == (3 : Nat))) := fun l => by
    induction l with
    | nil => rfl
    | cons a l ih => rw [List.any_cons, List.any_cons, List.any_cons, ih]; simp; cases (kindOf a == 1) <;> cases (kindOf a == 3) <;> simp
  have e1 := Bool.eq_iff_iff.2 (((h 1 (by omega)).1).trans ((h 1 (by omega)).2).symm)
  have e2 := Bool.eq_iff_iff.2 (((h 2 (by omega)).1).trans ((h 2 (by omega)).2).symm)
  have e3 := Bool.eq_iff_iff.2 (((h 3 (by omega)).1).trans ((h 3 (by omega)).2).symm)
  unfold ordOf
  rw [hor, hor, e1, e3]
  have e2' : (spL g (symL p g)).any (fun m => kindOf m == 2) = (symL p g).any (fun m => kindOf m == 2) := e2
  rw [e2']
theorem fl_iff (hp : PatOk p) (hg : IsLat p g) : (spL g (symL p g)).any (fun m => decide (4 ≤ kindOf m)) = true ↔ anyL p g := by
  rw [anyL_iff hp hg, List.any_eq_true]
  constructor
  · rintro ⟨m, hm, h⟩
    obtain ⟨k, e, f, hk, he, hf, rfl, hs⟩ := (mem_spL hp hg m).1 hm
    rw [decide_eq_true_eq, kindOf_knd k hk] at h
    exact ⟨k, by omega, hk, e, f, hs⟩
  · rintro ⟨k, h4, hk, e, f, hs⟩
    obtain ⟨e', f', he, hf, h1⟩ := hs.red hp hk
    exact ⟨_, (mem_spL hp hg _).2 ⟨k, e', f', hk, by unfold in14; omega, by unfold in14; omega, rfl, h1⟩, by rw [decide_eq_true_eq, kindOf_knd k hk]; omega⟩
theorem ak_iff (hp : PatOk p) (hg : IsLat p g) (k : Nat) (h4 : 4 ≤ k) (hk : k < 8) : (spL g (symL p g)).any (fun m => kindOf m == k && isMir m) = true ↔ anyM p g k := by
  rw [anyM_iff hp hg h4 hk, List.any_eq_true]
  constructor
  · rintro ⟨m, hm, h⟩
    obtain ⟨k', e, f, hk', he, hf, rfl, hs⟩ := (mem_spL hp hg m).1 hm
    rw [Bool.and_eq_true, beq_iff_eq, kindOf_knd k' hk'] at h
    obtain rfl : k' = k := by omega
    exact ⟨e, f, hs, ((isMir_knd hk e f).1 h.2).2⟩
  · rintro ⟨e, f, hs, hl⟩
    obtain ⟨e', f', he, hf, h1, h2⟩ := mir_red hp h4 hk hs hl
    refine ⟨_, (mem_spL hp hg _).2 ⟨k, e', f', hk, by unfold in14; omega, by unfold in14; omega, rfl, h1⟩, ?_⟩
    rw [kindOf_knd k hk, (isMir_knd hk e' f').2 ⟨h4, h2⟩]; simp
theorem isMir_kinds (m : Mv) : isMir m = ((kindOf m == 4 && isMir m) || ((kindOf m == 5 && isMir m) || ((kindOf m == 6 && isMir m) || (kindOf m == 7 && isMir m)))) := by
  unfold isMir
  cases (kindOf m == 4) <;> cases (kindOf m == 5) <;> cases (kindOf m == 6) <;> cases (kindOf m == 7) <;> simp
theorem mi_or (l : List Mv) : l.any isMir = (l.any (fun m => kindOf m == 4 && isMir m) || (l.any (fun m => kindOf m == 5 && isMir m) || (l.any (fun m => kindOf m == 6 && isMir m) || l.any (fun m => kindOf m == 7 && isMir m)))) := by
  induction l with
  | nil => rfl
  | cons a l ih =>
    rw [List.any_cons, List.any_cons, List.any_cons, List.any_cons, List.any_cons, ih]
    have ha := isMir_kinds a
    generalize (kindOf a == 4 && isMir a) = x4 at *
    generalize (kindOf a == 5 && isMir a) = x5 at *
    generalize (kindOf a == 6 && isMir a) = x6 at *
    generalize (kindOf a == 7 && isMir a) = x7 at *
    rw [ha]
    cases x4 <;> cases x5 <;> cases x6 <;> cases x7 <;> simp
theorem dirN_cnt {a4 a5 a6 a7 : Bool} (h4 : a4 = true ↔ anyM p g 4) (h5 : a5 = true ↔ anyM p g 5) (h6 : a6 = true ↔ anyM p g 6) (h7 : a7 = true ↔ anyM p g 7) : dirN p g 8 = cnt4 a4 a5 a6 a7 := by
  have step : ∀ (k : Nat) (a : Bool), 4 ≤ k → (a = true ↔ anyM p g k) → dirN p g (k + 1) = dirN p g k + a.toNat := fun k a hk h => by
    cases a with
    | true => exact dirN_yes hk (h.1 rfl)
    | false => exact dirN_no (fun hh => by have := h.2 hh; cases this)
  unfold cnt4
  rw [show 8 = 7 + 1 from rfl, step 7 a7 (by omega) h7, show 7 = 6 + 1 from rfl, step 6 a6 (by omega) h6, show 6 = 5 + 1 from rfl, step 5 a5 (by omega) h5, show 5 = 4 + 1 from rfl, step 4 a4 (by omega) h4, dirN_four]
  omega
theorem cen_knd1 (e f : Int) : cenX (knd 1 e f) = e - f ∧ cenY (knd 1 e f) = e + f := by
  have h := kindOf_knd 1 (by omega) e f
  unfold cenX cenY
  rw [h]; exact ⟨rfl, rfl⟩
theorem cen_knd3 (e f : Int) : cenX (knd 3 e f) = e + f ∧ cenY (knd 3 e f) = f - e := by
  have h := kindOf_knd 3 (by omega) e f
  unfold cenX cenY
  rw [h]; exact ⟨rfl, rfl⟩
theorem cen_knd2 (e f : Int) : cenX (knd 2 e f) = e ∧ cenY (knd 2 e f) = f := by
  have h := kindOf_knd 2 (by omega) e f
  unfold cenX cenY
  rw [h]; exact ⟨rfl, rfl⟩
theorem nearB_iff (x y : Int) : nearB x y = true ↔ (0 ≤ x ∧ x ≤ 12) ∧ (0 ≤ y ∧ y ≤ 12) := by
  unfold nearB; rw [decide_eq_true_eq]; omega
theorem tu_iff (hp : PatOk p) (hg : IsLat p g) : (spL g (symL p g)).any (fun m => (kindOf m == 1 || kindOf m == 3) && (nearB (cenX m) (cenY m) && onB (spL g (symL p g)) (cenX m) (cenY m))) = true ↔ ctr p g 1 (onP p g) := by
  rw [List.any_eq_true]
  unfold ctr cOn
  constructor
  · rintro ⟨m, hm, h⟩
    obtain ⟨k, e, f, hk, he, hf, rfl, hs⟩ := (mem_spL hp hg m).1 hm
    rw [Bool.and_eq_true, Bool.and_eq_true, nearB_iff, Bool.or_eq_true, beq_iff_eq, beq_iff_eq, kindOf_knd k hk] at h
    obtain ⟨h1, ⟨h2, h3⟩, h4⟩ := h
    have h5 := (onB_iff hp hg h2 h3).1 h4
    have : k = 1 ∨ k = 3 := by omega
    rcases this with rfl | rfl
    · rw [(cen_knd1 e f).1, (cen_knd1 e f).2] at h5
      rw [(cen_knd1 e f).1] at h2
      rw [(cen_knd1 e f).2] at h3
      refine ⟨e, f, by unfold in12; omega, by unfold in12; omega, (hasB_iff hp hg hk e f).2 hs, ?_⟩
      exact (onP_iff hp hg (x := e - f) (y := e + f) (by omega) (by omega)).2 h5
    · rw [(cen_knd3 e f).1, (cen_knd3 e f).2] at h5
      rw [(cen_knd3 e f).1] at h2
      rw [(cen_knd3 e f).2] at h3
      have hs1 : Sy p 1 f (-e) := by
        have := hs.inv (by omega)
        simpa [invK, lX, lY] using this
      refine ⟨f, -e, by unfold in12; omega, by unfold in12; omega, (hasB_iff hp hg (by omega) f (-e)).2 hs1, ?_⟩
      refine (onP_iff hp hg (x := f - -e) (y := f + -e) (by omega) (by omega)).2 ?_
      rwa [show f - -e = e + f by omega, show f + -e = f - e by omega]
  · rintro ⟨e, f, he, hf, h1, h2⟩
    unfold in12 at he hf
    have hs := (hasB_iff hp hg (by omega) e f).1 h1
    have h3 := (onP_iff hp hg (x := e - f) (y := e + f) (by omega) (by omega)).1 h2
    obtain ⟨s, t, ht, hx, hy⟩ := near_red hp (e - f) (e + f)
    have h4 := h3.moved ht
    have h5 := hs.moved (by omega) ht
    simp only [lX, lY] at h5
    have c1 : cenX (knd 1 (e + (s - -t)) (f + (t - s))) = e - f + 2 * s := by rw [(cen_knd1 _ _).1]; omega
    have c2 : cenY (knd 1 (e + (s - -t)) (f + (t - s))) = e + f + 2 * t := by rw [(cen_knd1 _ _).2]; omega
    refine ⟨knd 1 (e + (s - -t)) (f + (t - s)), (mem_spL hp hg _).2 ⟨1, _, _, by omega, by unfold in14; omega, by unfold in14; omega, rfl, h5⟩, ?_⟩
    rw [c1, c2, kindOf_knd 1 (by omega), (nearB_iff _ _).2 ⟨hx, hy⟩, (onB_iff hp hg hx hy).2 h4]; rfl
theorem al_iff (hp : PatOk p) (hg : IsLat p g) : (spL g (symL p g)).any (fun m => kindOf m == 2 && (nearB (cenX m) (cenY m) && !onB (spL g (symL p g)) (cenX m) (cenY m))) = true ↔ ctr p g 2 (fun x y => ¬ onP p g x y) := by
  rw [List.any_eq_true]
  unfold ctr cOn
  constructor
  · rintro ⟨m, hm, h⟩
    obtain ⟨k, e, f, hk, he, hf, rfl, hs⟩ := (mem_spL hp hg m).1 hm
    rw [Bool.and_eq_true, Bool.and_eq_true, nearB_iff, beq_iff_eq, kindOf_knd k hk, Bool.not_eq_true'] at h
    obtain ⟨h1, ⟨h2, h3⟩, h4⟩ := h
    obtain rfl : k = 2 := by omega
    rw [(cen_knd2 e f).1, (cen_knd2 e f).2] at h4
    rw [(cen_knd2 e f).1] at h2
    rw [(cen_knd2 e f).2] at h3
    refine ⟨e, f, by unfold in12; omega, by unfold in12; omega, (hasB_iff hp hg hk e f).2 hs, fun h => ?_⟩
    have h5 := (onP_iff hp hg (x := e) (y := f) (by omega) (by omega)).1 h
    rw [(onB_iff hp hg h2 h3).2 h5] at h4
    cases h4
  · rintro ⟨e, f, he, hf, h1, h2⟩
    unfold in12 at he hf
    have hs := (hasB_iff hp hg (by omega) e f).1 h1
    have h3 : ¬ OnM p e f := fun h => h2 ((onP_iff hp hg (x := e) (y := f) (by omega) (by omega)).2 h)
    obtain ⟨s, t, ht, hx, hy⟩ := near_red hp e f
    have h4 : ¬ OnM p (e + 2 * s) (f + 2 * t) := fun h => h3 ((OnM.moved_iff ht).1 h)
    have h5 := hs.moved (by omega) ht
    simp only [lX, lY] at h5
    rw [show e + (s - -s) = e + 2 * s by omega, show f + (t - -t) = f + 2 * t by omega] at h5
    refine ⟨knd 2 (e + 2 * s) (f + 2 * t), (mem_spL hp hg _).2 ⟨2, _, _, by omega, by unfold in14; omega, by unfold in14; omega, rfl, h5⟩, ?_⟩
    have : onB (spL g (symL p g)) (e + 2 * s) (f + 2 * t) = false := by
      rw [Bool.eq_false_iff]
      exact fun h => h4 ((onB_iff hp hg hx hy).1 h)
    rw [(cen_knd2 _ _).1, (cen_knd2 _ _).2, kindOf_knd 2 (by omega), (nearB_iff _ _).2 ⟨hx, hy⟩, this]; rfl
/-- A line that has a mirror. -/
def MirLine (p : List ByteArray) (k : Nat) (a : Int) : Prop := ∃ e f, Sy p k e f ∧ lineAt k e f = a ∧ lineAlong k e f = 0
theorem mirLine_in {k : Nat} (h4 : 4 ≤ k) (hk : k < 8) {e f a : Int} (h1 : lineAt k e f = a) (h2 : lineAlong k e f = 0) {n : Int} (hn : 0 ≤ n) (ha : -n ≤ a ∧ a ≤ n) : (-n ≤ e ∧ e ≤ n) ∧ (-n ≤ f ∧ f ≤ n) := by
  have h : k = 4 ∨ k = 5 ∨ k = 6 ∨ k = 7 := by omega
  rcases h with rfl | rfl | rfl | rfl
  · have a1 : f = a := h1
    have a2 : e = 0 := h2
    omega
  · have a1 : e = a := h1
    have a2 : f = 0 := h2
    omega
  · have a1 : e - f = a := h1
    have a2 : e + f = 0 := h2
    omega
  · have a1 : e + f = a := h1
    have a2 : e - f = 0 := h2
    omega
theorem lnMir_iff (hp : PatOk p) (hg : IsLat p g) {k : Nat} (h4 : 4 ≤ k) (hk : k < 8) {a : Int} (ha : -28 ≤ a ∧ a ≤ 28) : lnMir p g k a ↔ MirLine p k a := by
  unfold lnMir cMir MirLine
  constructor
  · rintro ⟨e, f, he, hf, h1, h2, h3⟩
    exact ⟨e, f, (hasB_iff hp hg hk e f).1 h1, h2, h3⟩
  · rintro ⟨e, f, h1, h2, h3⟩
    have := mirLine_in h4 hk h2 h3 (n := 28) (by omega) ha
    exact ⟨e, f, by unfold inR; omega, by unfold inR; omega, (hasB_iff hp hg hk e f).2 h1, h2, h3⟩
/-- A glide can be found near the middle, and its line has a mirror only if the first one's line has one. -/
theorem glide_red (hp : PatOk p) {k : Nat} (h4 : 4 ≤ k) (hk : k < 8) {e f : Int} (hs : Sy p k e f) : ∃ e' f', (-6 ≤ e' ∧ e' ≤ 6) ∧ (-6 ≤ f' ∧ f' ≤ 6) ∧ Sy p k e' f' ∧ (MirLine p k (lineAt k e' f') → MirLine p k (lineAt k e f)) := by
  have h1 := hp.w1
  have h2 := hp.w6
  have h3 := hp.h1
  have h5 := hp.h6
  have h : k = 4 ∨ k = 5 ∨ k = 6 ∨ k = 7 := by omega
  have e1 := Int.emod_def e (wd p)
  have e2 := Int.emod_def f p.length
  have e3 := Int.emod_nonneg e (show (wd p : Int) ≠ 0 by omega)
  have e4 := Int.emod_lt_of_pos e (show (0 : Int) < wd p by omega)
  have e5 := Int.emod_nonneg f (show (p.length : Int) ≠ 0 by omega)
  have e6 := Int.emod_lt_of_pos f (show (0 : Int) < p.length by omega)
  have hX := Sy.perX p (e / wd p)
  have hY := Sy.perY p (f / p.length)
  have e7 := Int.emod_def (e + f + wd p) (2 * wd p)
  have e8 := Int.emod_nonneg (e + f + wd p) (show (2 * wd p : Int) ≠ 0 by omega)
  have e9 := Int.emod_lt_of_pos (e + f + wd p) (show (0 : Int) < 2 * wd p by omega)
  have f7 := Int.emod_def (e - f + wd p) (2 * wd p)
  have f8 := Int.emod_nonneg (e - f + wd p) (show (2 * wd p : Int) ≠ 0 by omega)
  have f9 := Int.emod_lt_of_pos (e - f + wd p) (show (0 : Int) < 2 * wd p by omega)
  have hU := Sy.perX p ((e + f + wd p) / (2 * wd p))
  have hV := Sy.perX p ((e - f + wd p) / (2 * wd p))
  rw [Int.mul_assoc] at e7 f7
  rcases h with rfl | rfl | rfl | rfl
  · have hs' := (hs.sub hk hX).sub hk hY
    refine ⟨_, _, by omega, by omega, hs', ?_⟩
    rintro ⟨a, b, m1, m2, m3⟩
    refine ⟨_, _, m1.add hk hY, ?_, ?_⟩
    · have m2' : b = f - 0 - p.length * (f / p.length) := m2
      show b + p.length * (f / p.length) = f
      omega
    · have m3' : a = 0 := m3
      show a + 0 = 0
      omega
  · have hs' := (hs.sub hk hX).sub hk hY
    refine ⟨_, _, by omega, by omega, hs', ?_⟩
    rintro ⟨a, b, m1, m2, m3⟩
    refine ⟨_, _, m1.add hk hX, ?_, ?_⟩
    · have m2' : a = e - wd p * (e / wd p) - 0 := m2
      show a + wd p * (e / wd p) = e
      omega
    · have m3' : b = 0 := m3
      show b + 0 = 0
      omega
  · have cU : Sy p 0 0 (wd p * ((e + f + wd p) / (2 * wd p))) := hs.conj hk hU
    have cV : Sy p 0 0 (wd p * ((e - f + wd p) / (2 * wd p))) := hs.conj hk hV
    generalize (wd p : Int) * ((e + f + wd p) / (2 * wd p)) = u at *
    generalize (wd p : Int) * ((e - f + wd p) / (2 * wd p)) = v at *
    have hs' := (((hs.sub hk hU).sub hk cU).sub hk hV).add hk cV
    refine ⟨_, _, by omega, by omega, hs', ?_⟩
    rintro ⟨a, b, m1, m2, m3⟩
    refine ⟨_, _, (m1.add hk hV).sub hk cV, ?_, ?_⟩
    · have m2' : a - b = (e - u - 0 - v + 0) - (f - 0 - u - 0 + v) := m2
      show (a + v - 0) - (b + 0 - v) = e - f
      omega
    · have m3' : a + b = 0 := m3
      show (a + v - 0) + (b + 0 - v) = 0
      omega
  · have cU : Sy p 0 (-0) (-(wd p * ((e + f + wd p) / (2 * wd p)))) := hs.conj hk hU
    have cV : Sy p 0 (-0) (-(wd p * ((e - f + wd p) / (2 * wd p)))) := hs.conj hk hV
    generalize (wd p : Int) * ((e + f + wd p) / (2 * wd p)) = u at *
    generalize (wd p : Int) * ((e - f + wd p) / (2 * wd p)) = v at *
    have hs' := (((hs.sub hk hU).add hk cU).sub hk hV).sub hk cV
    refine ⟨_, _, by omega, by omega, hs', ?_⟩
    rintro ⟨a, b, m1, m2, m3⟩
    refine ⟨_, _, (m1.add hk hU).sub hk cU, ?_, ?_⟩
    · have m2' : a + b = (e - u + -0 - v - -0) + (f - 0 + -u - 0 - -v) := m2
      show (a + u - -0) + (b + 0 - -u) = e + f
      omega
    · have m3' : a - b = 0 := m3
      show (a + u - -0) - (b + 0 - -u) = 0
      omega
theorem ow_iff (hp : PatOk p) (hg : IsLat p g) : ownL (spL g (symL p g)) = false ↔ cmP p g := by
  unfold ownL cmP
  rw [List.all_eq_false]
  constructor
  · rintro ⟨m, hm, h⟩
    obtain ⟨k, e, f, hk, he, hf, rfl, hs⟩ := (mem_spL hp hg m).1 hm
    rw [Bool.not_eq_true, Bool.or_eq_false_iff, Bool.not_eq_false', List.any_eq_false] at h
    obtain ⟨h1, h2⟩ := h
    unfold glB at h1
    rw [Bool.and_eq_true, Bool.and_eq_true, decide_eq_true_eq, decide_eq_true_eq, kindOf_knd k hk] at h1
    obtain ⟨⟨h3, h4⟩, h5⟩ := h1
    have h5' : (-7 ≤ e ∧ e ≤ 7) ∧ (-7 ≤ f ∧ f ≤ 7) := h5
    have h4k : 4 ≤ k := by omega
    have hla : -14 ≤ lineAt k e f ∧ lineAt k e f ≤ 14 := by
      have h : k = 4 ∨ k = 5 ∨ k = 6 ∨ k = 7 := by omega
      rcases h with rfl | rfl | rfl | rfl
      · show -14 ≤ f ∧ f ≤ 14; omega
      · show -14 ≤ e ∧ e ≤ 14; omega
      · show -14 ≤ e - f ∧ e - f ≤ 14; omega
      · show -14 ≤ e + f ∧ e + f ≤ 14; omega
    refine ⟨k, h4k, hk, lineAt k e f, ⟨e, f, by unfold inR; omega, by unfold inR; omega, (hasB_iff hp hg hk e f).2 hs, rfl⟩, by omega, fun hmir => ?_⟩
    obtain ⟨a, b, m1, m2, m3⟩ := (lnMir_iff hp hg h4k hk (by omega)).1 hmir
    have hin := mirLine_in h4k hk m2 m3 (n := 14) (by omega) hla
    refine h2 (knd k a b) ((mem_spL hp hg _).2 ⟨k, a, b, hk, hin.1, hin.2, rfl, m1⟩) ?_
    unfold mateB smB
    rw [kindOf_knd k hk, kindOf_knd k hk, (isMir_knd hk a b).2 ⟨h4k, m3⟩]
    have : lineAt k (knd k e f).e (knd k e f).f = lineAt k (knd k a b).e (knd k a b).f := m2.symm
    rw [this]; simp
  · rintro ⟨k, h4, hk, a, ⟨e, f, he, hf, h1, h2⟩, ha, h3⟩
    have hs := (hasB_iff hp hg hk e f).1 h1
    have h3' : ¬ MirLine p k a := fun h => h3 ((lnMir_iff hp hg h4 hk (by omega)).2 h)
    obtain ⟨e', f', he', hf', hs', hm⟩ := glide_red hp h4 hk hs
    have hno : ¬ MirLine p k (lineAt k e' f') := fun h => h3' (by have := hm h; rwa [h2] at this)
    refine ⟨knd k e' f', (mem_spL hp hg _).2 ⟨k, e', f', hk, by unfold in14; omega, by unfold in14; omega, rfl, hs'⟩, ?_⟩
    rw [Bool.not_eq_true, Bool.or_eq_false_iff, Bool.not_eq_false', List.any_eq_false]
    constructor
    · unfold glB
      rw [Bool.and_eq_true, Bool.and_eq_true, decide_eq_true_eq, decide_eq_true_eq, kindOf_knd k hk, Bool.not_eq_true', Bool.eq_false_iff]
      refine ⟨⟨by omega, fun h => ?_⟩, by show (-7 ≤ e' ∧ e' ≤ 7) ∧ (-7 ≤ f' ∧ f' ≤ 7); omega⟩
      exact hno ⟨e', f', hs', rfl, ((isMir_knd hk e' f').1 h).2⟩
    · intro n hn hmt
      obtain ⟨k2, a2, b2, hk2, ha2, hb2, rfl, hs2⟩ := (mem_spL hp hg n).1 hn
      unfold mateB smB at hmt
      rw [Bool.and_eq_true, Bool.and_eq_true, beq_iff_eq, beq_iff_eq, kindOf_knd k hk, kindOf_knd k2 hk2] at hmt
      obtain ⟨m1, m2, m3⟩ := hmt
      obtain rfl : k2 = k := by omega
      exact hno ⟨a2, b2, hs2, m3.symm, ((isMir_knd hk a2 b2).1 m2).2⟩
theorem name_eq (hp : PatOk p) (hg : IsLat p g) {o : Int} {fl mi a4 a5 a6 a7 al tu : Bool} (h : GaOk (spL g (symL p g)) (spL g (symL p g)) o fl mi a4 a5 a6 a7 al tu) : nameG o fl mi a4 a5 a6 a7 al tu (ownL (spL g (symL p g))) = nameOf p g := by
  have ho : o = ordOf (symL p g) := by rw [h.ho, ordOf_eq hp hg]
  have hfl : fl = true ↔ anyL p g := by rw [h.hfl]; exact fl_iff hp hg
  have h4 : a4 = true ↔ anyM p g 4 := by rw [h.h4]; exact ak_iff hp hg 4 (by omega) (by omega)
  have h5 : a5 = true ↔ anyM p g 5 := by rw [h.h5]; exact ak_iff hp hg 5 (by omega) (by omega)
  have h6 : a6 = true ↔ anyM p g 6 := by rw [h.h6]; exact ak_iff hp hg 6 (by omega) (by omega)
  have h7 : a7 = true ↔ anyM p g 7 := by rw [h.h7]; exact ak_iff hp hg 7 (by omega) (by omega)
  have hmi : mi = (a4 || (a5 || (a6 || a7))) := by rw [h.hmi, h.h4, h.h5, h.h6, h.h7]; exact mi_or _
  have hd := dirN_cnt h4 h5 h6 h7
  have hmi0 : mi = false ↔ dirN p g 8 = 0 := by
    rw [hd, hmi]
    unfold cnt4
    cases a4 <;> cases a5 <;> cases a6 <;> cases a7 <;> simp
  have htu : tu = true ↔ ctr p g 1 (onP p g) := by rw [h.htu]; exact tu_iff hp hg
  have hal : al = false ↔ ctr p g 2 (fun x y => ¬ onP p g x y) := by rw [h.hal, Bool.not_eq_false']; exact al_iff hp hg
  have how := ow_iff hp hg
  have hfl0 : fl = false ↔ ¬ anyL p g := by rw [← hfl]; simp
  have hal1 : al = true ↔ ¬ ctr p g 2 (fun x y => ¬ onP p g x y) := by rw [← hal]; simp
  have how1 : ownL (spL g (symL p g)) = true ↔ ¬ cmP p g := by rw [← how]; simp
  generalize ownL (spL g (symL p g)) = ow at *
  have B1 : anyL p g ↔ fl = true := hfl.symm
  have B2 : dirN p g 8 = 0 ↔ mi = false := hmi0.symm
  have B3 : ctr p g 1 (onP p g) ↔ tu = true := htu.symm
  have B4 : ctr p g 2 (fun x y => ¬ onP p g x y) ↔ al = false := hal.symm
  have B5 : cmP p g ↔ ow = false := how.symm
  unfold nameG nameOf
  simp only
  rw [← ho, ← hd]
  have h1 : o = 1 ∨ o = 2 ∨ o = 4 := by rw [ho]; exact ordOf_cases _
  clear h hfl h4 h5 h6 h7 hmi hd hmi0 htu hal how hfl0 hal1 how1 ho
  generalize anyL p g = P1 at *
  generalize ctr p g 1 (onP p g) = P3 at *
  generalize ctr p g 2 (fun x y => ¬ onP p g x y) = P4 at *
  generalize cmP p g = P5 at *
  generalize dirN p g 8 = d at *
  rcases h1 with rfl | rfl | rfl
  · cases fl <;> cases mi <;> cases ow <;> simp at B1 B2 B5 <;> simp [B1, B2, B5]
  · cases fl <;> cases mi <;> cases al <;> simp at B1 B2 B4 <;> simp [B1, B2, B4]
  · cases fl <;> cases tu <;> simp at B1 B3 <;> simp [B1, B3]
end
end Go.Proofs.YteibbnmlmbhkpaaDoor
