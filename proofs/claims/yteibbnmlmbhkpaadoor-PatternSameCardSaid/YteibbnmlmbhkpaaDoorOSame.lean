/-
  Plain: a pattern that a move takes to another one; the name of its group stays. Plain: orbits of cells, numbered; their sizes under a move.
-/
import Derived.Test.YteibbnmlmbhkpaaDoorPNames2
import Derived.Test.YteibbnmlmbhkpaaDoorBW8
namespace Go.Proofs.YteibbnmlmbhkpaaDoor
set_option linter.unusedVariables false
set_option linter.unusedSimpArgs false
set_option maxHeartbeats 2000000

/-- A move takes one floor to another one, whatever the names of the colours. -/
def Mvs (j : Nat) (a b : Int) (p q : List ByteArray) : Prop := ∀ x y x' y' : Int, col q (lX j x y + a) (lY j x y + b) = col q (lX j x' y' + a) (lY j x' y' + b) ↔ col p x y = col p x' y'
theorem Mvs.of {j : Nat} {a b : Int} {p q : List ByteArray} (h : ∀ x y : Int, col q (lX j x y + a) (lY j x y + b) = col p x y) : Mvs j a b p q := fun x y x' y' => by rw [h, h]
theorem inv_to {j : Nat} (hj : j < 8) (a b x y : Int) :
    lX j (lX (invK j) x y + -(lX (invK j) a b)) (lY (invK j) x y + -(lY (invK j) a b)) + a = x ∧ lY j (lX (invK j) x y + -(lX (invK j) a b)) (lY (invK j) x y + -(lY (invK j) a b)) + b = y := by
  rcases k8_cases hj with rfl | rfl | rfl | rfl | rfl | rfl | rfl | rfl <;> simp [lX, lY, invK] <;> omega
theorem to_inv {j : Nat} (hj : j < 8) (a b x y : Int) :
    lX (invK j) (lX j x y + a) (lY j x y + b) + -(lX (invK j) a b) = x ∧ lY (invK j) (lX j x y + a) (lY j x y + b) + -(lY (invK j) a b) = y := by
  rcases k8_cases hj with rfl | rfl | rfl | rfl | rfl | rfl | rfl | rfl <;> simp [lX, lY, invK] <;> omega
theorem Mvs.inv {j : Nat} (hj : j < 8) {a b : Int} {p q : List ByteArray} (h : Mvs j a b p q) : Mvs (invK j) (-(lX (invK j) a b)) (-(lY (invK j) a b)) q p := fun x y x' y' => by
  have h1 := h (lX (invK j) x y + -(lX (invK j) a b)) (lY (invK j) x y + -(lY (invK j) a b)) (lX (invK j) x' y' + -(lX (invK j) a b)) (lY (invK j) x' y' + -(lY (invK j) a b))
  obtain ⟨e1, e2⟩ := inv_to hj a b x y
  obtain ⟨e3, e4⟩ := inv_to hj a b x' y'
  rw [e1, e2, e3, e4] at h1
  exact h1.symm
/-- The kind of a symmetry of the one floor, taken to the other one. -/
def kc (j k : Nat) : Nat := cmpK (cmpK j k) (invK j)
def cE (j k : Nat) (a b e f : Int) : Int := lX j e f + a - lX (kc j k) a b
def cF (j k : Nat) (a b e f : Int) : Int := lY j e f + b - lY (kc j k) a b
theorem kc_lt {j k : Nat} (hj : j < 8) (hk : k < 8) : kc j k < 8 := cmpK_lt (cmpK_lt hj hk) (invK_lt hj)
theorem kc_to {j k : Nat} (hj : j < 8) (hk : k < 8) (a b e f x y : Int) :
    lX (kc j k) (lX j x y + a) (lY j x y + b) + cE j k a b e f = lX j (lX k x y + e) (lY k x y + f) + a ∧ lY (kc j k) (lX j x y + a) (lY j x y + b) + cF j k a b e f = lY j (lX k x y + e) (lY k x y + f) + b := by
  rcases k8_cases hj with rfl | rfl | rfl | rfl | rfl | rfl | rfl | rfl <;> rcases k8_cases hk with rfl | rfl | rfl | rfl | rfl | rfl | rfl | rfl <;> simp [lX, lY, invK, kc, cmpK, cE, cF] <;> omega
theorem Mvs.sy {j : Nat} (hj : j < 8) {a b : Int} {p q : List ByteArray} (h : Mvs j a b p q) {k : Nat} (hk : k < 8) {e f : Int} (hs : Sy p k e f) : Sy q (kc j k) (cE j k a b e f) (cF j k a b e f) := fun x y => by
  obtain ⟨e1, e2⟩ := inv_to hj a b x y
  generalize lX (invK j) x y + -(lX (invK j) a b) = u at *
  generalize lY (invK j) x y + -(lY (invK j) a b) = v at *
  obtain ⟨e3, e4⟩ := kc_to hj hk a b e f u v
  rw [e1, e2] at e3 e4
  rw [e3, e4]
  have h1 := (h (lX k u v + e) (lY k u v + f) u v).2 (hs u v)
  rw [e1, e2] at h1
  exact h1
theorem kc_4 {j k : Nat} (hj : j < 8) (h4 : 4 ≤ k) (hk : k < 8) : 4 ≤ kc j k := by
  have h : k = 4 ∨ k = 5 ∨ k = 6 ∨ k = 7 := by omega
  rcases k8_cases hj with rfl | rfl | rfl | rfl | rfl | rfl | rfl | rfl <;> rcases h with rfl | rfl | rfl | rfl <;> decide
theorem kc_1 {j : Nat} (hj : j < 8) : kc j 1 = 1 ∨ kc j 1 = 3 := by
  rcases k8_cases hj with rfl | rfl | rfl | rfl | rfl | rfl | rfl | rfl <;> decide
theorem kc_2 {j : Nat} (hj : j < 8) : kc j 2 = 2 := by
  rcases k8_cases hj with rfl | rfl | rfl | rfl | rfl | rfl | rfl | rfl <;> decide
theorem kc_back {j k : Nat} (hj : j < 8) (hk : k < 8) : kc (invK j) (kc j k) = k := by
  rcases k8_cases hj with rfl | rfl | rfl | rfl | rfl | rfl | rfl | rfl <;> rcases k8_cases hk with rfl | rfl | rfl | rfl | rfl | rfl | rfl | rfl <;> decide
theorem invK_inv {j : Nat} (hj : j < 8) : invK (invK j) = j := by
  rcases k8_cases hj with rfl | rfl | rfl | rfl | rfl | rfl | rfl | rfl <;> decide
theorem Sy.three {p : List ByteArray} {e f : Int} (h : Sy p 3 e f) : Sy p 1 f (-e) := by
  have := h.inv (by omega)
  simp [invK, lX, lY] at this
  exact this
theorem along_to {j k : Nat} (hj : j < 8) (h4 : 4 ≤ k) (hk : k < 8) {a b e f : Int} (h : lineAlong k e f = 0) : lineAlong (kc j k) (cE j k a b e f) (cF j k a b e f) = 0 := by
  have h' : k = 4 ∨ k = 5 ∨ k = 6 ∨ k = 7 := by omega
  rcases k8_cases hj with rfl | rfl | rfl | rfl | rfl | rfl | rfl | rfl <;> rcases h' with rfl | rfl | rfl | rfl <;> simp [lX, lY, invK, kc, cmpK, cE, cF, lineAlong] at h ⊢ <;> omega
theorem at_to {j k : Nat} (hj : j < 8) (h4 : 4 ≤ k) (hk : k < 8) {a b e f e' f' : Int} (h : lineAt k e f = lineAt k e' f') : lineAt (kc j k) (cE j k a b e f) (cF j k a b e f) = lineAt (kc j k) (cE j k a b e' f') (cF j k a b e' f') := by
  have h' : k = 4 ∨ k = 5 ∨ k = 6 ∨ k = 7 := by omega
  rcases k8_cases hj with rfl | rfl | rfl | rfl | rfl | rfl | rfl | rfl <;> rcases h' with rfl | rfl | rfl | rfl <;> simp [lX, lY, invK, kc, cmpK, cE, cF, lineAt] at h ⊢ <;> omega
theorem back_c {j k : Nat} (hj : j < 8) (hk : k < 8) (a b e f : Int) : cE (invK j) (kc j k) (-(lX (invK j) a b)) (-(lY (invK j) a b)) (cE j k a b e f) (cF j k a b e f) = e ∧ cF (invK j) (kc j k) (-(lX (invK j) a b)) (-(lY (invK j) a b)) (cE j k a b e f) (cF j k a b e f) = f := by
  rcases k8_cases hj with rfl | rfl | rfl | rfl | rfl | rfl | rfl | rfl <;> rcases k8_cases hk with rfl | rfl | rfl | rfl | rfl | rfl | rfl | rfl <;> simp [lX, lY, invK, kc, cmpK, cE, cF] <;> omega
/-- A point, given by twice its coordinates, lies on the line of a move. -/
def ptOn (k : Nat) (e f x y : Int) : Prop := (k = 4 → f = y) ∧ (k = 5 → e = x) ∧ (k = 6 → 2 * e = x - y) ∧ (k = 7 → 2 * e = x + y)
theorem onM_of {p : List ByteArray} {k : Nat} {e f x y : Int} (h4 : 4 ≤ k) (hk : k < 8) (hs : Sy p k e f) (hl : lineAlong k e f = 0) (h : ptOn k e f x y) : OnM p x y := by
  obtain ⟨a1, a2, a3, a4⟩ := h
  have h' : k = 4 ∨ k = 5 ∨ k = 6 ∨ k = 7 := by omega
  rcases h' with rfl | rfl | rfl | rfl
  · have h1 : e = 0 := hl
    rw [h1, a1 rfl] at hs
    exact .inl hs
  · have h1 : f = 0 := hl
    rw [h1, a2 rfl] at hs
    exact .inr (.inl hs)
  · have h1 : e + f = 0 := hl
    rw [show f = -e by omega] at hs
    exact .inr (.inr (.inl ⟨e, a3 rfl, hs⟩))
  · have h1 : e - f = 0 := hl
    rw [show f = e by omega] at hs
    exact .inr (.inr (.inr ⟨e, a4 rfl, hs⟩))
theorem ptOn_to {j k : Nat} (hj : j < 8) (h4 : 4 ≤ k) (hk : k < 8) {a b e f x y : Int} (hl : lineAlong k e f = 0) (h : ptOn k e f x y) : ptOn (kc j k) (cE j k a b e f) (cF j k a b e f) (lX j x y + 2 * a) (lY j x y + 2 * b) := by
  have h' : k = 4 ∨ k = 5 ∨ k = 6 ∨ k = 7 := by omega
  unfold ptOn at h ⊢
  rcases h' with rfl | rfl | rfl | rfl <;> rcases k8_cases hj with rfl | rfl | rfl | rfl | rfl | rfl | rfl | rfl <;> simp [lX, lY, invK, kc, cmpK, cE, cF, lineAlong] at h hl ⊢ <;> omega
theorem OnM.mvs {j : Nat} (hj : j < 8) {a b : Int} {p q : List ByteArray} (h : Mvs j a b p q) {x y : Int} (ho : OnM p x y) : OnM q (lX j x y + 2 * a) (lY j x y + 2 * b) := by
  have key : ∀ k e f, 4 ≤ k → k < 8 → Sy p k e f → lineAlong k e f = 0 → ptOn k e f x y → OnM q (lX j x y + 2 * a) (lY j x y + 2 * b) := fun k e f h4 hk hs hl hp =>
    onM_of (kc_4 hj h4 hk) (kc_lt hj hk) (h.sy hj hk hs) (along_to hj h4 hk hl) (ptOn_to hj h4 hk hl hp)
  rcases ho with hs | hs | ⟨e, he, hs⟩ | ⟨e, he, hs⟩
  · exact key 4 0 y (by omega) (by omega) hs rfl ⟨fun _ => rfl, fun h => by omega, fun h => by omega, fun h => by omega⟩
  · exact key 5 x 0 (by omega) (by omega) hs rfl ⟨fun h => by omega, fun _ => rfl, fun h => by omega, fun h => by omega⟩
  · exact key 6 e (-e) (by omega) (by omega) hs (by show e + -e = 0; omega) ⟨fun h => by omega, fun h => by omega, fun _ => he, fun h => by omega⟩
  · exact key 7 e e (by omega) (by omega) hs (by show e - e = 0; omega) ⟨fun h => by omega, fun h => by omega, fun h => by omega, fun _ => he⟩
theorem OnM.back {j : Nat} (hj : j < 8) {a b : Int} {p q : List ByteArray} (h : Mvs j a b p q) {x y : Int} (ho : OnM q (lX j x y + 2 * a) (lY j x y + 2 * b)) : OnM p x y := by
  have h1 := OnM.mvs (invK_lt hj) (h.inv hj) ho
  have e1 : lX (invK j) (lX j x y + 2 * a) (lY j x y + 2 * b) + 2 * -(lX (invK j) a b) = x := by
    rcases k8_cases hj with rfl | rfl | rfl | rfl | rfl | rfl | rfl | rfl <;> simp [lX, lY, invK] <;> omega
  have e2 : lY (invK j) (lX j x y + 2 * a) (lY j x y + 2 * b) + 2 * -(lY (invK j) a b) = y := by
    rcases k8_cases hj with rfl | rfl | rfl | rfl | rfl | rfl | rfl | rfl <;> simp [lX, lY, invK] <;> omega
  rwa [e1, e2] at h1

/-! ### What the name asks, by the symmetries alone -/
theorem any_kind {p : List ByteArray} {g : Gd} (hp : PatOk p) (hg : IsLat p g) {q : Mv → Bool} {K : Nat → Prop} (hq : ∀ k e f, k < 8 → (q (knd k e f) = true ↔ K k)) : (symL p g).any q = true ↔ ∃ k e f, k < 8 ∧ K k ∧ Sy p k e f := by
  rw [List.any_eq_true]
  constructor
  · rintro ⟨m, hm, h⟩
    obtain ⟨k, e, f, hk, _, _, rfl, hs⟩ := (mem_symL hp hg m).1 hm
    exact ⟨k, e, f, hk, (hq k _ _ hk).1 h, hs⟩
  · rintro ⟨k, e, f, hk, hK, hs⟩
    obtain ⟨r, s, hr, hss, h1, _⟩ := hs.class hp hg hk
    exact ⟨knd k r s, (mem_symL hp hg _).2 ⟨k, r, s, hk, hr, hss, rfl, h1⟩, (hq k _ _ hk).2 hK⟩
theorem any1_iff {p : List ByteArray} {g : Gd} (hp : PatOk p) (hg : IsLat p g) : (symL p g).any (fun m => kindOf m == 1 || kindOf m == 3) = true ↔ ∃ e f, Sy p 1 e f := by
  rw [any_kind hp hg (K := fun k => k = 1 ∨ k = 3) fun k e f hk => by
    rw [kindOf_knd k hk, Bool.or_eq_true, beq_iff_eq, beq_iff_eq]; omega]
  constructor
  · rintro ⟨k, e, f, _, rfl | rfl, hs⟩
    · exact ⟨e, f, hs⟩
    · exact ⟨_, _, hs.three⟩
  · rintro ⟨e, f, hs⟩
    exact ⟨1, e, f, by omega, .inl rfl, hs⟩
theorem any2_iff {p : List ByteArray} {g : Gd} (hp : PatOk p) (hg : IsLat p g) : (symL p g).any (fun m => kindOf m == 2) = true ↔ ∃ e f, Sy p 2 e f := by
  rw [any_kind hp hg (K := fun k => k = 2) fun k e f hk => by
    rw [kindOf_knd k hk, beq_iff_eq]; omega]
  constructor
  · rintro ⟨k, e, f, _, rfl, hs⟩; exact ⟨e, f, hs⟩
  · rintro ⟨e, f, hs⟩; exact ⟨2, e, f, by omega, rfl, hs⟩
theorem ctr1_iff {p : List ByteArray} {g : Gd} (hp : PatOk p) (hg : IsLat p g) : ctr p g 1 (onP p g) ↔ ∃ e f, Sy p 1 e f ∧ OnM p (e - f) (e + f) := by
  unfold ctr cOn
  constructor
  · rintro ⟨e, f, h1, h2, h3, h4⟩
    unfold in12 at h1 h2
    exact ⟨e, f, (hasB_iff hp hg (by omega) e f).1 h3, (onP_iff hp hg (x := e - f) (y := e + f) (by omega) (by omega)).1 h4⟩
  · rintro ⟨e, f, hs, ho⟩
    obtain ⟨s, t, h1, h2, h3⟩ := near_red hp (e - f) (e + f)
    have h4 := hs.moved (by omega) h1
    have h5 := ho.moved h1
    simp only [lX, lY] at h4
    refine ⟨_, _, by unfold in12; omega, by unfold in12; omega, (hasB_iff hp hg (by omega) _ _).2 h4, (onP_iff hp hg ?_ ?_).2 ?_⟩
    · show -30 ≤ (e + (s - -t)) - (f + (t - s)) ∧ (e + (s - -t)) - (f + (t - s)) ≤ 30; omega
    · show -30 ≤ (e + (s - -t)) + (f + (t - s)) ∧ (e + (s - -t)) + (f + (t - s)) ≤ 30; omega
    · show OnM p ((e + (s - -t)) - (f + (t - s))) ((e + (s - -t)) + (f + (t - s)))
      rw [show (e + (s - -t)) - (f + (t - s)) = e - f + 2 * s by omega, show (e + (s - -t)) + (f + (t - s)) = e + f + 2 * t by omega]
      exact h5
theorem ctr2_iff {p : List ByteArray} {g : Gd} (hp : PatOk p) (hg : IsLat p g) : ctr p g 2 (fun x y => ¬ onP p g x y) ↔ ∃ e f, Sy p 2 e f ∧ ¬ OnM p e f := by
  unfold ctr cOn
  constructor
  · rintro ⟨e, f, h1, h2, h3, h4⟩
    unfold in12 at h1 h2
    exact ⟨e, f, (hasB_iff hp hg (by omega) e f).1 h3, fun h => h4 ((onP_iff hp hg (x := e) (y := f) (by omega) (by omega)).2 h)⟩
  · rintro ⟨e, f, hs, ho⟩
    obtain ⟨s, t, h1, h2, h3⟩ := near_red hp e f
    have h4 := hs.moved (by omega) h1
    simp only [lX, lY] at h4
    refine ⟨_, _, by unfold in12; omega, by unfold in12; omega, (hasB_iff hp hg (by omega) _ _).2 h4, fun h => ho ?_⟩
    have h6 := (onP_iff hp hg (x := e + (s - -s)) (y := f + (t - -t)) (by omega) (by omega)).1 h
    rw [show e + (s - -s) = e + 2 * s by omega, show f + (t - -t) = f + 2 * t by omega] at h6
    exact (OnM.moved_iff h1).1 h6
theorem cmP_iff {p : List ByteArray} {g : Gd} (hp : PatOk p) (hg : IsLat p g) : cmP p g ↔ ∃ k e f, 4 ≤ k ∧ k < 8 ∧ Sy p k e f ∧ ¬ MirLine p k (lineAt k e f) := by
  unfold cmP
  constructor
  · rintro ⟨k, h4, hk, a, ⟨e, f, _, _, h1, h2⟩, ha, h3⟩
    exact ⟨k, e, f, h4, hk, (hasB_iff hp hg hk e f).1 h1, fun h => h3 ((lnMir_iff hp hg h4 hk (by omega)).2 (by rwa [h2] at h))⟩
  · rintro ⟨k, e, f, h4, hk, hs, hno⟩
    obtain ⟨e', f', he', hf', hs', hm⟩ := glide_red hp h4 hk hs
    have hla : -14 ≤ lineAt k e' f' ∧ lineAt k e' f' ≤ 14 := by
      have h : k = 4 ∨ k = 5 ∨ k = 6 ∨ k = 7 := by omega
      rcases h with rfl | rfl | rfl | rfl
      · show -14 ≤ f' ∧ f' ≤ 14; omega
      · show -14 ≤ e' ∧ e' ≤ 14; omega
      · show -14 ≤ e' - f' ∧ e' - f' ≤ 14; omega
      · show -14 ≤ e' + f' ∧ e' + f' ≤ 14; omega
    exact ⟨k, h4, hk, _, ⟨e', f', by unfold inR; omega, by unfold inR; omega, (hasB_iff hp hg hk _ _).2 hs', rfl⟩, by omega, fun h => hno (hm ((lnMir_iff hp hg h4 hk (by omega)).1 h))⟩

/-! ### From one floor to the other -/
section
variable {j : Nat} {a b : Int} {p q : List ByteArray}
theorem m_one (hj : j < 8) (h : Mvs j a b p q) : (∃ e f, Sy p 1 e f) → ∃ e f, Sy q 1 e f := fun ⟨e, f, hs⟩ => by
  have h1 := h.sy hj (by omega) hs
  rcases kc_1 hj with h2 | h2 <;> rw [h2] at h1
  · exact ⟨_, _, h1⟩
  · exact ⟨_, _, h1.three⟩
theorem m_two (hj : j < 8) (h : Mvs j a b p q) : (∃ e f, Sy p 2 e f) → ∃ e f, Sy q 2 e f := fun ⟨e, f, hs⟩ => by
  have h1 := h.sy hj (by omega) hs
  rw [kc_2 hj] at h1
  exact ⟨_, _, h1⟩
theorem m_flip (hj : j < 8) (h : Mvs j a b p q) : (∃ k, 4 ≤ k ∧ k < 8 ∧ ∃ e f, Sy p k e f) → ∃ k, 4 ≤ k ∧ k < 8 ∧ ∃ e f, Sy q k e f := fun ⟨k, h4, hk, e, f, hs⟩ =>
  ⟨kc j k, kc_4 hj h4 hk, kc_lt hj hk, _, _, h.sy hj hk hs⟩
def Mk (p : List ByteArray) (k : Nat) : Prop := ∃ e f, Sy p k e f ∧ lineAlong k e f = 0
theorem m_mir (hj : j < 8) (h : Mvs j a b p q) {k : Nat} (h4 : 4 ≤ k) (hk : k < 8) : Mk p k → Mk q (kc j k) := fun ⟨e, f, hs, hl⟩ => ⟨_, _, h.sy hj hk hs, along_to hj h4 hk hl⟩
theorem m_c1 (hj : j < 8) (h : Mvs j a b p q) : (∃ e f, Sy p 1 e f ∧ OnM p (e - f) (e + f)) → ∃ e f, Sy q 1 e f ∧ OnM q (e - f) (e + f) := fun ⟨e, f, hs, ho⟩ => by
  have h1 := h.sy hj (by omega) hs
  have h2 := OnM.mvs hj h ho
  rcases kc_1 hj with h3 | h3
  · have e1 : cE j 1 a b e f - cF j 1 a b e f = lX j (e - f) (e + f) + 2 * a ∧ cE j 1 a b e f + cF j 1 a b e f = lY j (e - f) (e + f) + 2 * b := by
      rcases k8_cases hj with rfl | rfl | rfl | rfl | rfl | rfl | rfl | rfl <;> simp [kc, cmpK, invK] at h3 <;> simp [lX, lY, invK, kc, cmpK, cE, cF] <;> omega
    rw [← e1.1, ← e1.2] at h2
    rw [h3] at h1
    exact ⟨_, _, h1, h2⟩
  · have e1 : cF j 1 a b e f - -cE j 1 a b e f = lX j (e - f) (e + f) + 2 * a ∧ cF j 1 a b e f + -cE j 1 a b e f = lY j (e - f) (e + f) + 2 * b := by
      rcases k8_cases hj with rfl | rfl | rfl | rfl | rfl | rfl | rfl | rfl <;> simp [kc, cmpK, invK] at h3 <;> simp [lX, lY, invK, kc, cmpK, cE, cF] <;> omega
    rw [← e1.1, ← e1.2] at h2
    rw [h3] at h1
    exact ⟨_, _, h1.three, h2⟩
theorem m_c2 (hj : j < 8) (h : Mvs j a b p q) : (∃ e f, Sy p 2 e f ∧ ¬ OnM p e f) → ∃ e f, Sy q 2 e f ∧ ¬ OnM q e f := fun ⟨e, f, hs, ho⟩ => by
  have h1 := h.sy hj (by omega) hs
  have e1 : cE j 2 a b e f = lX j e f + 2 * a ∧ cF j 2 a b e f = lY j e f + 2 * b := by
    rcases k8_cases hj with rfl | rfl | rfl | rfl | rfl | rfl | rfl | rfl <;> simp [lX, lY, invK, kc, cmpK, cE, cF] <;> omega
  rw [kc_2 hj, e1.1, e1.2] at h1
  exact ⟨_, _, h1, fun hc => ho (OnM.back hj h hc)⟩
theorem m_cm (hj : j < 8) (h : Mvs j a b p q) : (∃ k e f, 4 ≤ k ∧ k < 8 ∧ Sy p k e f ∧ ¬ MirLine p k (lineAt k e f)) → ∃ k e f, 4 ≤ k ∧ k < 8 ∧ Sy q k e f ∧ ¬ MirLine q k (lineAt k e f) := fun ⟨k, e, f, h4, hk, hs, hno⟩ => by
  refine ⟨kc j k, _, _, kc_4 hj h4 hk, kc_lt hj hk, h.sy hj hk hs, fun ⟨e1, f1, s1, l1, a1⟩ => hno ?_⟩
  have s2 := (h.inv hj).sy (invK_lt hj) (kc_lt hj hk) s1
  have a2 := along_to (j := invK j) (a := -(lX (invK j) a b)) (b := -(lY (invK j) a b)) (invK_lt hj) (kc_4 hj h4 hk) (kc_lt hj hk) a1
  have l2 := at_to (j := invK j) (a := -(lX (invK j) a b)) (b := -(lY (invK j) a b)) (invK_lt hj) (kc_4 hj h4 hk) (kc_lt hj hk) l1
  rw [(back_c hj hk a b e f).1, (back_c hj hk a b e f).2] at l2
  rw [kc_back hj hk] at s2 a2 l2
  exact ⟨_, _, s2, l2, a2⟩
end
theorem both_ways {P : List ByteArray → Prop} (H : ∀ {j : Nat} {a b : Int} {p q : List ByteArray}, j < 8 → Mvs j a b p q → P p → P q) {j : Nat} {a b : Int} {p q : List ByteArray} (hj : j < 8) (h : Mvs j a b p q) : P q = P p :=
  propext ⟨H (invK_lt hj) (h.inv hj), H hj h⟩
theorem mk_eq {j : Nat} {a b : Int} {p q : List ByteArray} (hj : j < 8) (h : Mvs j a b p q) {k : Nat} (h4 : 4 ≤ k) (hk : k < 8) : Mk p k ↔ Mk q (kc j k) :=
  ⟨m_mir hj h h4 hk, fun hm => by have := m_mir (invK_lt hj) (h.inv hj) (kc_4 hj h4 hk) (kc_lt hj hk) hm; rwa [kc_back hj hk] at this⟩
open Classical in
theorem dir_eq {j : Nat} {a b : Int} {p q : List ByteArray} {g g' : Gd} (hp : PatOk p) (hq : PatOk q) (hg : IsLat p g) (hg' : IsLat q g') (hj : j < 8) (h : Mvs j a b p q) : dirN q g' 8 = dirN p g 8 := by
  have hB : ∀ k, 4 ≤ k → k < 8 → (decide (Mk p k) = true ↔ anyM p g k) := fun k h4 hk => by rw [decide_eq_true_eq]; exact (anyM_iff hp hg h4 hk).symm
  have hB' : ∀ k, 4 ≤ k → k < 8 → (decide (Mk q k) = true ↔ anyM q g' k) := fun k h4 hk => by rw [decide_eq_true_eq]; exact (anyM_iff hq hg' h4 hk).symm
  rw [dirN_cnt (hB 4 (by omega) (by omega)) (hB 5 (by omega) (by omega)) (hB 6 (by omega) (by omega)) (hB 7 (by omega) (by omega)), dirN_cnt (hB' 4 (by omega) (by omega)) (hB' 5 (by omega) (by omega)) (hB' 6 (by omega) (by omega)) (hB' 7 (by omega) (by omega))]
  have e4 : decide (Mk p 4) = decide (Mk q (kc j 4)) := decide_eq_decide.2 (mk_eq hj h (by omega) (by omega))
  have e5 : decide (Mk p 5) = decide (Mk q (kc j 5)) := decide_eq_decide.2 (mk_eq hj h (by omega) (by omega))
  have e6 : decide (Mk p 6) = decide (Mk q (kc j 6)) := decide_eq_decide.2 (mk_eq hj h (by omega) (by omega))
  have e7 : decide (Mk p 7) = decide (Mk q (kc j 7)) := decide_eq_decide.2 (mk_eq hj h (by omega) (by omega))
  rw [e4, e5, e6, e7]
  have hc : ∀ a4 a5 a6 a7 : Bool, cnt4 a4 a5 a6 a7 = cnt4 a5 a4 a6 a7 ∧ cnt4 a4 a5 a6 a7 = cnt4 a4 a5 a7 a6 ∧ cnt4 a4 a5 a6 a7 = cnt4 a5 a4 a7 a6 := fun a4 a5 a6 a7 => by
    cases a4 <;> cases a5 <;> cases a6 <;> cases a7 <;> exact ⟨rfl, rfl, rfl⟩
  rcases k8_cases hj with rfl | rfl | rfl | rfl | rfl | rfl | rfl | rfl <;> simp only [kc, cmpK, invK] <;> first | rfl | exact (hc _ _ _ _).1 | exact (hc _ _ _ _).2.1 | exact (hc _ _ _ _).2.2
/-- The name stays. -/
theorem name_same {j : Nat} {a b : Int} {p q : List ByteArray} {g g' : Gd} (hp : PatOk p) (hq : PatOk q) (hg : IsLat p g) (hg' : IsLat q g') (hj : j < 8) (h : Mvs j a b p q) : nameOf q g' = nameOf p g := by
  have h1 := both_ways m_one hj h
  have h2 := both_ways m_two hj h
  have h3 := both_ways m_flip hj h
  have h5 := both_ways m_c1 hj h
  have h6 := both_ways m_c2 hj h
  have h7 := both_ways m_cm hj h
  rw [← propext (any1_iff hp hg), ← propext (any1_iff hq hg')] at h1
  rw [← propext (any2_iff hp hg), ← propext (any2_iff hq hg')] at h2
  rw [← propext (anyL_iff hp hg), ← propext (anyL_iff hq hg')] at h3
  rw [← propext (ctr1_iff hp hg), ← propext (ctr1_iff hq hg')] at h5
  rw [← propext (ctr2_iff hp hg), ← propext (ctr2_iff hq hg')] at h6
  rw [← propext (cmP_iff hp hg), ← propext (cmP_iff hq hg')] at h7
  have h8 := dir_eq hp hq hg hg' hj h
  have hb : ∀ {x y : Bool}, (x = true) = (y = true) → x = y := fun {x y} h => by cases x <;> cases y <;> simp_all
  have h9 : ordOf (symL q g') = ordOf (symL p g) := by
    unfold ordOf
    rw [hb h1, hb h2]
  unfold nameOf
  rw [h9, h8, h3, h5, h6, h7]
end Go.Proofs.YteibbnmlmbhkpaaDoor

namespace Go.Proofs.YteibbnmlmbhkpaaDoor
set_option linter.unusedVariables false
set_option linter.unusedSimpArgs false
set_option maxHeartbeats 2000000

/-- Some symmetry takes one cell to another one. -/
def Orb (p : List ByteArray) (x y x' y' : Int) : Prop := ∃ k e f, k < 8 ∧ Sy p k e f ∧ lX k x y + e = x' ∧ lY k x y + f = y'
theorem Orb.sy {p : List ByteArray} {s t : Int} (h : Sy p 0 s t) (x y : Int) : Orb p x y (x + s) (y + t) := ⟨0, s, t, by omega, h, rfl, rfl⟩
theorem Orb.refl (p : List ByteArray) (x y : Int) : Orb p x y x y := ⟨0, 0, 0, by omega, Sy.zero p, by show x + 0 = x; omega, by show y + 0 = y; omega⟩
theorem Orb.symm {p : List ByteArray} {x y x' y' : Int} (h : Orb p x y x' y') : Orb p x' y' x y := by
  obtain ⟨k, e, f, hk, hs, rfl, rfl⟩ := h
  have h1 := to_inv hk e f x y
  exact ⟨invK k, _, _, invK_lt hk, hs.inv hk, h1.1, h1.2⟩
theorem Orb.trans {p : List ByteArray} {x y x' y' x2 y2 : Int} (h : Orb p x y x' y') (h' : Orb p x' y' x2 y2) : Orb p x y x2 y2 := by
  obtain ⟨k, e, f, hk, hs, rfl, rfl⟩ := h
  obtain ⟨k', e', f', hk', hs', rfl, rfl⟩ := h'
  refine ⟨cmpK k' k, _, _, cmpK_lt hk' hk, hs'.comp hk' hk hs, ?_, ?_⟩
  · rw [cmpK_X hk' hk, lX_add]; omega
  · rw [cmpK_Y hk' hk, lY_add]; omega
theorem Orb.mvs {j : Nat} (hj : j < 8) {a b : Int} {p q : List ByteArray} (h : Mvs j a b p q) {x y x' y' : Int} (ho : Orb p x y x' y') : Orb q (lX j x y + a) (lY j x y + b) (lX j x' y' + a) (lY j x' y' + b) := by
  obtain ⟨k, e, f, hk, hs, rfl, rfl⟩ := ho
  have h1 := kc_to hj hk a b e f x y
  exact ⟨kc j k, _, _, kc_lt hj hk, h.sy hj hk hs, h1.1, h1.2⟩
theorem Orb.per (p : List ByteArray) (x y : Int) : Orb p x y (x % wd p) (y % p.length) := by
  have h1 := (Sy.perX p (-(x / wd p))).comp (by omega) (by omega) (Sy.perY p (-(y / p.length)))
  have h2 := Orb.sy (p := p) (s := wd p * -(x / wd p)) (t := p.length * -(y / p.length)) (fun u v => by
    have := h1 u v
    simp only [cmpK, lX, lY] at this
    have e1 : u + (0 + (wd p : Int) * -(x / wd p)) = u + (wd p : Int) * -(x / wd p) := by omega
    have e2 : v + ((p.length : Int) * -(y / p.length) + 0) = v + (p.length : Int) * -(y / p.length) := by omega
    rw [show (([[0, 1, 2, 3, 4, 5, 6, 7], [1, 2, 3, 0, 6, 7, 5, 4], [2, 3, 0, 1, 5, 4, 7, 6], [3, 0, 1, 2, 7, 6, 4, 5], [4, 7, 5, 6, 0, 2, 3, 1], [5, 6, 4, 7, 2, 0, 1, 3], [6, 4, 7, 5, 1, 3, 0, 2], [7, 5, 6, 4, 3, 1, 2, 0]].getD 0 []).getD 0 0) = 0 from rfl] at this
    simp only [e1, e2] at this
    exact this) x y
  have e1 : x + (wd p : Int) * -(x / wd p) = x % wd p := by rw [Int.mul_neg, Int.emod_def]; omega
  have e2 : y + (p.length : Int) * -(y / p.length) = y % p.length := by rw [Int.mul_neg, Int.emod_def]; omega
  rw [e1, e2] at h2
  exact h2
/-- The cell of an index, row after row. -/
def cX (p : List ByteArray) (i : Nat) : Int := ((i % wd p : Nat) : Int)
def cY (p : List ByteArray) (i : Nat) : Int := ((i / wd p : Nat) : Int)
def OrbI (p : List ByteArray) (i j : Nat) : Prop := Orb p (cX p i) (cY p i) (cX p j) (cY p j)
def ixC (p : List ByteArray) (x y : Int) : Nat := (x % wd p).toNat + (y % p.length).toNat * wd p
theorem ix_cell {p : List ByteArray} (hp : PatOk p) (x y : Int) : ixC p x y < wd p * p.length ∧ cX p (ixC p x y) = x % wd p ∧ cY p (ixC p x y) = y % p.length := by
  have h1 := hp.w1
  have h2 := hp.h1
  have e3 := Int.emod_nonneg x (show (wd p : Int) ≠ 0 by omega)
  have e4 := Int.emod_lt_of_pos x (show (0 : Int) < wd p by omega)
  have e5 := Int.emod_nonneg y (show (p.length : Int) ≠ 0 by omega)
  have e6 := Int.emod_lt_of_pos y (show (0 : Int) < p.length by omega)
  unfold cX cY ixC
  have h3 : (x % wd p).toNat < wd p := by omega
  have h4 : (y % p.length).toNat + 1 ≤ p.length := by omega
  refine ⟨?_, ?_, ?_⟩
  · have h5 := Nat.mul_le_mul_right (wd p) h4
    rw [Nat.add_mul, Nat.one_mul, Nat.mul_comm p.length] at h5
    omega
  · rw [Nat.add_mul_mod_self_right, Nat.mod_eq_of_lt h3]; omega
  · rw [Nat.add_mul_div_right _ _ (by omega), Nat.div_eq_of_lt h3, Nat.zero_add]; omega
theorem cell_ix {p : List ByteArray} (hp : PatOk p) {i : Nat} (hi : i < wd p * p.length) : ixC p (cX p i) (cY p i) = i := by
  have h1 := hp.w1
  have h2 : i / wd p < p.length := by rw [Nat.div_lt_iff_lt_mul (by omega), Nat.mul_comm]; exact hi
  have h3 : i % wd p < wd p := Nat.mod_lt _ (by omega)
  have h4 := Nat.mod_add_div i (wd p)
  unfold ixC cX cY
  generalize i / wd p = u at *
  generalize i % wd p = v at *
  rw [Int.emod_eq_of_lt (by omega) (by omega), Int.emod_eq_of_lt (by omega) (by omega), Int.toNat_natCast, Int.toNat_natCast, Nat.mul_comm]
  exact h4
/-- Numbers of orbits. -/
structure Lab (p : List ByteArray) (lb : Nat → Nat) (n : Nat) : Prop where
  lt : ∀ i, i < wd p * p.length → lb i < n
  on : ∀ s, s < n → ∃ i, i < wd p * p.length ∧ lb i = s
  iff : ∀ i j, i < wd p * p.length → j < wd p * p.length → (lb i = lb j ↔ OrbI p i j)
def many (lb : Nat → Nat) (N s : Nat) : Nat := (List.range N).countP fun i => lb i == s
def hst (lb : Nat → Nat) (N z : Nat) : Nat := (List.range 40).countP fun s => many lb N s == z
theorem Lab.le {p : List ByteArray} {lb : Nat → Nat} {n : Nat} (h : Lab p lb n) : n ≤ wd p * p.length := by
  obtain ⟨r, hr⟩ : ∃ r : Nat → Nat, ∀ s, s < n → r s < wd p * p.length ∧ lb (r s) = s := by
    have : ∀ s, ∃ i, s < n → i < wd p * p.length ∧ lb i = s := fun s => by
      by_cases hs : s < n
      · obtain ⟨i, h1, h2⟩ := h.on s hs; exact ⟨i, fun _ => ⟨h1, h2⟩⟩
      · exact ⟨0, fun h => absurd h hs⟩
    exact Classical.axiomOfChoice this
  have h1 : ((List.range n).map r).Nodup := map_nodup List.nodup_range fun x hx y hy he => by
    rw [List.mem_range] at hx hy
    rw [← (hr x hx).2, ← (hr y hy).2, he]
  have h2 := List.Nodup.length_le_of_subset (l₂ := List.range (wd p * p.length)) h1 fun y hy => by
    obtain ⟨t, ht, rfl⟩ := List.mem_map.1 hy
    exact List.mem_range.2 (hr t (List.mem_range.1 ht)).1
  simpa using h2
/-- Two numberings, and cells that answer each other. -/
theorem hist_same {p q : List ByteArray} {lb lb' : Nat → Nat} {n n' : Nat} (hp : PatOk p) (hq : PatOk q) (L : Lab p lb n) (L' : Lab q lb' n') (φ ψ : Nat → Nat)
    (hφ : ∀ i, i < wd p * p.length → φ i < wd q * q.length ∧ ψ (φ i) = i) (hψ : ∀ i, i < wd q * q.length → ψ i < wd p * p.length ∧ φ (ψ i) = i)
    (ho : ∀ i j, i < wd p * p.length → j < wd p * p.length → (OrbI p i j ↔ OrbI q (φ i) (φ j))) (z : Nat) : hst lb (wd p * p.length) z = hst lb' (wd q * q.length) z := by
  have hn := L.le
  have hn' := L'.le
  have ha := hp.area
  have ha' := hq.area
  generalize hN : wd p * p.length = N at *
  generalize hN' : wd q * q.length = N' at *
  have hlt := L.lt
  have hon := L.on
  have hiff := L.iff
  have hlt' := L'.lt
  have hon' := L'.on
  have hiff' := L'.iff
  rw [hN] at hlt hon hiff
  rw [hN'] at hlt' hon' hiff'
  have ho' : ∀ i j, i < N' → j < N' → (OrbI q i j ↔ OrbI p (ψ i) (ψ j)) := fun i j hi hj => by
    rw [ho _ _ (hψ i hi).1 (hψ j hj).1, (hψ i hi).2, (hψ j hj).2]
  obtain ⟨r, hr⟩ : ∃ r : Nat → Nat, ∀ s, s < n → r s < N ∧ lb (r s) = s := by
    have : ∀ s, ∃ i, s < n → i < N ∧ lb i = s := fun s => by
      by_cases hs : s < n
      · obtain ⟨i, h1, h2⟩ := hon s hs; exact ⟨i, fun _ => ⟨h1, h2⟩⟩
      · exact ⟨0, fun h => absurd h hs⟩
    exact Classical.axiomOfChoice this
  obtain ⟨r', hr'⟩ : ∃ r : Nat → Nat, ∀ s, s < n' → r s < N' ∧ lb' (r s) = s := by
    have : ∀ s, ∃ i, s < n' → i < N' ∧ lb' i = s := fun s => by
      by_cases hs : s < n'
      · obtain ⟨i, h1, h2⟩ := hon' s hs; exact ⟨i, fun _ => ⟨h1, h2⟩⟩
      · exact ⟨0, fun h => absurd h hs⟩
    exact Classical.axiomOfChoice this
  -- a label goes over
  have hto : ∀ i, i < N → lb' (φ (r (lb i))) = lb' (φ i) := fun i hi => by
    have h1 := hr (lb i) (hlt i hi)
    exact (hiff' _ _ (hφ _ h1.1).1 (hφ i hi).1).2 ((ho _ _ h1.1 hi).1 ((hiff _ _ h1.1 hi).1 h1.2))
  have hto' : ∀ i, i < N' → lb (ψ (r' (lb' i))) = lb (ψ i) := fun i hi => by
    have h1 := hr' (lb' i) (hlt' i hi)
    exact (hiff _ _ (hψ _ h1.1).1 (hψ i hi).1).2 ((ho' _ _ h1.1 hi).1 ((hiff' _ _ h1.1 hi).1 h1.2))
  have hback : ∀ s, s < n → lb (ψ (r' (lb' (φ (r s))))) = s := fun s hs => by
    obtain ⟨h1, h2⟩ := hr s hs
    rw [hto' _ (hφ _ h1).1, (hφ _ h1).2, h2]
  have hback' : ∀ s, s < n' → lb' (φ (r (lb (ψ (r' s))))) = s := fun s hs => by
    obtain ⟨h1, h2⟩ := hr' s hs
    rw [hto _ (hψ _ h1).1, (hψ _ h1).2, h2]
  have hin : ∀ s, s < n → lb' (φ (r s)) < n' := fun s hs => hlt' _ (hφ _ (hr s hs).1).1
  have hin' : ∀ s, s < n' → lb (ψ (r' s)) < n := fun s hs => hlt _ (hψ _ (hr' s hs).1).1
  have hle : n ≤ n' := by
    have h1 : ((List.range n).map fun s => lb' (φ (r s))).Nodup := map_nodup List.nodup_range fun x hx y hy he => by
      rw [List.mem_range] at hx hy
      rw [← hback x hx, ← hback y hy, he]
    have h2 := List.Nodup.length_le_of_subset (l₂ := List.range n') h1 fun y hy => by
      obtain ⟨t, ht, rfl⟩ := List.mem_map.1 hy
      exact List.mem_range.2 (hin t (List.mem_range.1 ht))
    simpa using h2
  have hle' : n' ≤ n := by
    have h1 : ((List.range n').map fun s => lb (ψ (r' s))).Nodup := map_nodup List.nodup_range fun x hx y hy he => by
      rw [List.mem_range] at hx hy
      rw [← hback' x hx, ← hback' y hy, he]
    have h2 := List.Nodup.length_le_of_subset (l₂ := List.range n) h1 fun y hy => by
      obtain ⟨t, ht, rfl⟩ := List.mem_map.1 hy
      exact List.mem_range.2 (hin' t (List.mem_range.1 ht))
    simpa using h2
  have hnn : n = n' := Nat.le_antisymm hle hle'
  have hmany : ∀ s, s < n → many lb N s = many lb' N' (lb' (φ (r s))) := fun s hs => by
    unfold many
    apply Nat.le_antisymm
    · refine countP_le_of (f := φ) (g := ψ) List.nodup_range fun i hi h => ?_
      rw [List.mem_range] at hi ⊢
      rw [beq_iff_eq] at h ⊢
      exact ⟨(hφ i hi).1, by rw [← hto i hi, h], (hφ i hi).2⟩
    · refine countP_le_of (f := ψ) (g := φ) List.nodup_range fun i hi h => ?_
      rw [List.mem_range] at hi ⊢
      rw [beq_iff_eq] at h ⊢
      exact ⟨(hψ i hi).1, by rw [← hto' i hi, h, hback s hs], (hψ i hi).2⟩
  have hz : ∀ s, n ≤ s → many lb N s = 0 := fun s hs => by
    unfold many
    rw [List.countP_eq_zero]
    intro i hi
    rw [List.mem_range] at hi
    have := hlt i hi
    simp; omega
  have hz' : ∀ s, n' ≤ s → many lb' N' s = 0 := fun s hs => by
    unfold many
    rw [List.countP_eq_zero]
    intro i hi
    rw [List.mem_range] at hi
    have := hlt' i hi
    simp; omega
  unfold hst
  refine countP_bij (f := fun s => if s < n then lb' (φ (r s)) else s) (g := fun s => if s < n' then lb (ψ (r' s)) else s) List.nodup_range (fun s hs h => ?_) fun s hs h => ?_
  · rw [List.mem_range] at hs ⊢
    rw [beq_iff_eq] at h ⊢
    by_cases hc : s < n
    · rw [if_pos hc]
      have := hin s hc
      exact ⟨by omega, by rw [← hmany s hc]; exact h, by rw [if_pos this]; exact hback s hc⟩
    · rw [if_neg hc]
      exact ⟨hs, by rw [hz' s (by omega)]; rw [hz s (by omega)] at h; exact h, by rw [if_neg (by omega)]⟩
  · rw [List.mem_range] at hs ⊢
    rw [beq_iff_eq] at h ⊢
    by_cases hc : s < n'
    · rw [if_pos hc]
      have h1 := hin' s hc
      exact ⟨by omega, by rw [hmany _ h1, hback' s hc]; exact h, by rw [if_pos h1]; exact hback' s hc⟩
    · rw [if_neg hc]
      exact ⟨hs, by rw [hz s (by omega)]; rw [hz' s (by omega)] at h; exact h, by rw [if_neg (by omega)]⟩
/-- The sides of a pattern that a move has taken to another one. -/
def Sides (j : Nat) (p q : List ByteArray) : Prop := if j = 0 ∨ j = 2 ∨ j = 4 ∨ j = 5 then wd q = wd p ∧ q.length = p.length else wd q = p.length ∧ q.length = wd p
theorem Sides.inv {j : Nat} (hj : j < 8) {p q : List ByteArray} (h : Sides j p q) : Sides (invK j) q p := by
  unfold Sides at *
  rcases k8_cases hj with rfl | rfl | rfl | rfl | rfl | rfl | rfl | rfl <;> simp [invK] at h ⊢ <;> omega
theorem Sides.shift {j : Nat} (hj : j < 8) {p q : List ByteArray} (h : Sides j p q) (x y s t : Int) : ∃ s' t', lX j (x + wd p * s) (y + p.length * t) = lX j x y + wd q * s' ∧ lY j (x + wd p * s) (y + p.length * t) = lY j x y + q.length * t' := by
  unfold Sides at h
  rcases k8_cases hj with rfl | rfl | rfl | rfl | rfl | rfl | rfl | rfl <;> simp at h <;> rw [h.1, h.2] <;> simp only [lX, lY]
  · exact ⟨s, t, rfl, rfl⟩
  · exact ⟨-t, s, by rw [Int.mul_neg]; omega, rfl⟩
  · exact ⟨-s, -t, by rw [Int.mul_neg]; omega, by rw [Int.mul_neg]; omega⟩
  · exact ⟨t, -s, rfl, by rw [Int.mul_neg]; omega⟩
  · exact ⟨s, -t, rfl, by rw [Int.mul_neg]; omega⟩
  · exact ⟨-s, t, by rw [Int.mul_neg]; omega, rfl⟩
  · exact ⟨t, s, rfl, rfl⟩
  · exact ⟨-t, -s, by rw [Int.mul_neg]; omega, by rw [Int.mul_neg]; omega⟩
def mvI (j : Nat) (a b : Int) (p q : List ByteArray) (i : Nat) : Nat := ixC q (lX j (cX p i) (cY p i) + a) (lY j (cX p i) (cY p i) + b)
theorem ix_shift (p : List ByteArray) (x y s t : Int) : ixC p (x + wd p * s) (y + p.length * t) = ixC p x y := by
  unfold ixC
  rw [Int.add_mul_emod_self_left, Int.add_mul_emod_self_left]
theorem mvI_back {j : Nat} (hj : j < 8) {a b : Int} {p q : List ByteArray} (hp : PatOk p) (hq : PatOk q) (h : Sides j p q) {i : Nat} (hi : i < wd p * p.length) : mvI j a b p q i < wd q * q.length ∧ mvI (invK j) (-(lX (invK j) a b)) (-(lY (invK j) a b)) q p (mvI j a b p q i) = i := by
  unfold mvI
  obtain ⟨h1, h2, h3⟩ := ix_cell hq (lX j (cX p i) (cY p i) + a) (lY j (cX p i) (cY p i) + b)
  refine ⟨h1, ?_⟩
  rw [h2, h3]
  obtain ⟨e1, e2⟩ := to_inv hj a b (cX p i) (cY p i)
  generalize lX j (cX p i) (cY p i) + a = X at *
  generalize lY j (cX p i) (cY p i) + b = Y at *
  obtain ⟨s', t', e3, e4⟩ := (h.inv hj).shift (invK_lt hj) X Y (-(X / wd q)) (-(Y / q.length))
  have e5 : X + (wd q : Int) * -(X / wd q) = X % wd q := by rw [Int.mul_neg, Int.emod_def]; omega
  have e6 : Y + (q.length : Int) * -(Y / q.length) = Y % q.length := by rw [Int.mul_neg, Int.emod_def]; omega
  rw [e5, e6] at e3 e4
  rw [e3, e4, show ∀ u v w : Int, u + v + w = u + w + v from fun u v w => by omega, show lY (invK j) X Y + (p.length : Int) * t' + -(lY (invK j) a b) = lY (invK j) X Y + -(lY (invK j) a b) + p.length * t' by omega, e1, e2, ix_shift]
  exact cell_ix hp hi
theorem mvI_orb {j : Nat} (hj : j < 8) {a b : Int} {p q : List ByteArray} (hq : PatOk q) (h : Mvs j a b p q) {i i' : Nat} (ho : OrbI p i i') : OrbI q (mvI j a b p q i) (mvI j a b p q i') := by
  unfold OrbI mvI at *
  obtain ⟨h1, h2, h3⟩ := ix_cell hq (lX j (cX p i) (cY p i) + a) (lY j (cX p i) (cY p i) + b)
  obtain ⟨h4, h5, h6⟩ := ix_cell hq (lX j (cX p i') (cY p i') + a) (lY j (cX p i') (cY p i') + b)
  rw [h2, h3, h5, h6]
  exact ((Orb.per q _ _).symm.trans (ho.mvs hj h)).trans (Orb.per q _ _)
/-- The sizes of the orbits stay. -/
theorem sizes_same {j : Nat} (hj : j < 8) {a b : Int} {p q : List ByteArray} (hp : PatOk p) (hq : PatOk q) (h : Mvs j a b p q) (hs : Sides j p q) {lb lb' : Nat → Nat} {n n' : Nat} (L : Lab p lb n) (L' : Lab q lb' n') (z : Nat) : hst lb (wd p * p.length) z = hst lb' (wd q * q.length) z := by
  have hb : ∀ i, i < wd q * q.length → mvI (invK j) (-(lX (invK j) a b)) (-(lY (invK j) a b)) q p i < wd p * p.length ∧ mvI j a b p q (mvI (invK j) (-(lX (invK j) a b)) (-(lY (invK j) a b)) q p i) = i := fun i hi => by
    have h1 := mvI_back (invK_lt hj) (a := -(lX (invK j) a b)) (b := -(lY (invK j) a b)) hq hp (hs.inv hj) hi
    have e1 : -(lX (invK (invK j)) (-(lX (invK j) a b)) (-(lY (invK j) a b))) = a ∧ -(lY (invK (invK j)) (-(lX (invK j) a b)) (-(lY (invK j) a b))) = b := by
      rcases k8_cases hj with rfl | rfl | rfl | rfl | rfl | rfl | rfl | rfl <;> simp [lX, lY, invK]
    rw [e1.1, e1.2, invK_inv hj] at h1
    exact h1
  refine hist_same hp hq L L' (mvI j a b p q) (mvI (invK j) (-(lX (invK j) a b)) (-(lY (invK j) a b)) q p) (fun i hi => mvI_back hj hp hq hs hi) hb (fun i i' hi hi' => ⟨fun ho => mvI_orb hj hq h ho, fun ho => ?_⟩) z
  have h1 := mvI_orb (invK_lt hj) hp (h.inv hj) ho
  rw [(mvI_back hj hp hq hs hi).2, (mvI_back hj hp hq hs hi').2] at h1
  exact h1
end Go.Proofs.YteibbnmlmbhkpaaDoor
