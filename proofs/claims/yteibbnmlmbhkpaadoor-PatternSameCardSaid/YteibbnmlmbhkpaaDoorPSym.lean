/-
  Plain: the symmetries of a floor as a group, and its lattice.
-/
import Derived.Test.YteibbnmlmbhkpaaDoorPW8
namespace Go.Proofs.YteibbnmlmbhkpaaDoor
open Go.RowKit
set_option linter.unusedVariables false
set_option linter.unusedSimpArgs false

/-- Where a kind takes a cell. -/
def lX (k : Nat) (x y : Int) : Int := match k with
  | 0 => x | 1 => -y | 2 => -x | 3 => y | 4 => x | 5 => -x | 6 => y | _ => -y
def lY (k : Nat) (x y : Int) : Int := match k with
  | 0 => y | 1 => x | 2 => -y | 3 => -x | 4 => -y | 5 => y | 6 => x | _ => -x
/-- A move of a kind keeps the floor. -/
def Sy (p : List ByteArray) (k : Nat) (e f : Int) : Prop := ∀ x y : Int, col p (lX k x y + e) (lY k x y + f) = col p x y
theorem k8_cases {k : Nat} (h : k < 8) : k = 0 ∨ k = 1 ∨ k = 2 ∨ k = 3 ∨ k = 4 ∨ k = 5 ∨ k = 6 ∨ k = 7 := by omega
theorem col_shift (p : List ByteArray) (x y s t : Int) : col p (x + wd p * s) (y + p.length * t) = col p x y := by
  unfold col
  rw [Int.add_mul_emod_self_left, Int.add_mul_emod_self_left]
theorem lX_lin (k : Nat) (x y s t n : Int) : lX k (x + n * s) (y + n * t) = lX k x y + n * lX k s t := by
  unfold lX
  split <;> grind
theorem lY_lin (k : Nat) (x y s t n : Int) : lY k (x + n * s) (y + n * t) = lY k x y + n * lY k s t := by
  unfold lY
  split <;> grind
theorem lX_add (k : Nat) (x y s t : Int) : lX k (x + s) (y + t) = lX k x y + lX k s t := by
  unfold lX
  split <;> omega
theorem lY_add (k : Nat) (x y s t : Int) : lY k (x + s) (y + t) = lY k x y + lY k s t := by
  unfold lY
  split <;> omega
/-- One kind behind another one. -/
def cmpK (k k' : Nat) : Nat := (([[0, 1, 2, 3, 4, 5, 6, 7], [1, 2, 3, 0, 6, 7, 5, 4], [2, 3, 0, 1, 5, 4, 7, 6], [3, 0, 1, 2, 7, 6, 4, 5], [4, 7, 5, 6, 0, 2, 3, 1], [5, 6, 4, 7, 2, 0, 1, 3], [6, 4, 7, 5, 1, 3, 0, 2], [7, 5, 6, 4, 3, 1, 2, 0]].getD k []).getD k' 0)
def invK (k : Nat) : Nat := if k = 1 then 3 else if k = 3 then 1 else k
theorem cmpK_lt {k k' : Nat} (h : k < 8) (h' : k' < 8) : cmpK k k' < 8 := by
  rcases k8_cases h with rfl | rfl | rfl | rfl | rfl | rfl | rfl | rfl <;> rcases k8_cases h' with rfl | rfl | rfl | rfl | rfl | rfl | rfl | rfl <;> decide
theorem cmpK_X {k k' : Nat} (h : k < 8) (h' : k' < 8) (x y : Int) : lX (cmpK k k') x y = lX k (lX k' x y) (lY k' x y) := by
  rcases k8_cases h with rfl | rfl | rfl | rfl | rfl | rfl | rfl | rfl <;> rcases k8_cases h' with rfl | rfl | rfl | rfl | rfl | rfl | rfl | rfl <;> simp [cmpK, lX, lY]
theorem cmpK_Y {k k' : Nat} (h : k < 8) (h' : k' < 8) (x y : Int) : lY (cmpK k k') x y = lY k (lX k' x y) (lY k' x y) := by
  rcases k8_cases h with rfl | rfl | rfl | rfl | rfl | rfl | rfl | rfl <;> rcases k8_cases h' with rfl | rfl | rfl | rfl | rfl | rfl | rfl | rfl <;> simp [cmpK, lX, lY]
theorem invK_lt {k : Nat} (h : k < 8) : invK k < 8 := by unfold invK; split <;> (try split) <;> omega
theorem invK_cmp {k : Nat} (h : k < 8) : cmpK (invK k) k = 0 ∧ cmpK k (invK k) = 0 := by
  rcases k8_cases h with rfl | rfl | rfl | rfl | rfl | rfl | rfl | rfl <;> decide
/-- A move, and then another one. -/
theorem Sy.comp {p : List ByteArray} {k k' : Nat} (hk : k < 8) (hk' : k' < 8) {e f e' f' : Int} (h : Sy p k e f) (h' : Sy p k' e' f') : Sy p (cmpK k k') (lX k e' f' + e) (lY k e' f' + f) := fun x y => by
  have h1 := h (lX k' x y + e') (lY k' x y + f')
  rw [h' x y] at h1
  rw [← h1, cmpK_X hk hk', cmpK_Y hk hk', lX_add, lY_add, Int.add_assoc, Int.add_assoc]
theorem Sy.zero (p : List ByteArray) : Sy p 0 0 0 := fun x y => by simp [lX, lY]
theorem Sy.inv {p : List ByteArray} {k : Nat} (hk : k < 8) {e f : Int} (h : Sy p k e f) : Sy p (invK k) (-(lX (invK k) e f)) (-(lY (invK k) e f)) := fun x y => by
  have h1 := h (lX (invK k) x y + -(lX (invK k) e f)) (lY (invK k) x y + -(lY (invK k) e f))
  rw [← h1]
  have ex : ∀ a b, lX k (lX (invK k) a b) (lY (invK k) a b) = a := fun a b => by rw [← cmpK_X hk (invK_lt hk), (invK_cmp hk).2]; rfl
  have ey : ∀ a b, lY k (lX (invK k) a b) (lY (invK k) a b) = b := fun a b => by rw [← cmpK_Y hk (invK_lt hk), (invK_cmp hk).2]; rfl
  have nx : ∀ a b, lX k (-a) (-b) = -(lX k a b) := fun a b => by unfold lX; split <;> omega
  have ny : ∀ a b, lY k (-a) (-b) = -(lY k a b) := fun a b => by unfold lY; split <;> omega
  rw [lX_add, lY_add, ex, ey, nx, ny, ex, ey]
  congr 1 <;> omega
/-- Translations. -/
theorem Sy.add {p : List ByteArray} {k : Nat} (hk : k < 8) {e f s t : Int} (h : Sy p k e f) (ht : Sy p 0 s t) : Sy p k (e + s) (f + t) := by
  have h1 := Sy.comp (by omega) hk ht h
  have : cmpK 0 k = k := by rcases k8_cases hk with rfl | rfl | rfl | rfl | rfl | rfl | rfl | rfl <;> rfl
  rw [this] at h1
  exact h1
theorem Sy.neg0 {p : List ByteArray} {s t : Int} (h : Sy p 0 s t) : Sy p 0 (-s) (-t) := h.inv (by omega)
theorem Sy.sub {p : List ByteArray} {k : Nat} (hk : k < 8) {e f s t : Int} (h : Sy p k e f) (ht : Sy p 0 s t) : Sy p k (e - s) (f - t) := by
  have := h.add hk ht.neg0
  rwa [← Int.sub_eq_add_neg, ← Int.sub_eq_add_neg] at this
theorem Sy.nat {p : List ByteArray} {s t : Int} (h : Sy p 0 s t) : ∀ n : Nat, Sy p 0 (n * s) (n * t)
  | 0 => by simpa using Sy.zero p
  | n + 1 => by
    have := (Sy.nat h n).add (by omega) h
    rwa [show ((n + 1 : Nat) : Int) * s = n * s + s by grind, show ((n + 1 : Nat) : Int) * t = n * t + t by grind]
theorem Sy.mul {p : List ByteArray} {s t : Int} (h : Sy p 0 s t) (n : Int) : Sy p 0 (n * s) (n * t) := by
  rcases Int.eq_nat_or_neg n with ⟨m, rfl | rfl⟩
  · exact h.nat m
  · have := (h.nat m).neg0
    rwa [← Int.neg_mul, ← Int.neg_mul] at this
/-- What two moves of one kind differ by. -/
theorem Sy.diff {p : List ByteArray} {k : Nat} (hk : k < 8) {e f e' f' : Int} (h : Sy p k e f) (h' : Sy p k e' f') : Sy p 0 (e - e') (f - f') := by
  have h1 := h.comp hk (invK_lt hk) (h'.inv hk)
  rw [(invK_cmp hk).2] at h1
  have ex : ∀ a b, lX k (lX (invK k) a b) (lY (invK k) a b) = a := fun a b => by rw [← cmpK_X hk (invK_lt hk), (invK_cmp hk).2]; rfl
  have ey : ∀ a b, lY k (lX (invK k) a b) (lY (invK k) a b) = b := fun a b => by rw [← cmpK_Y hk (invK_lt hk), (invK_cmp hk).2]; rfl
  have nx : ∀ a b, lX k (-a) (-b) = -(lX k a b) := fun a b => by unfold lX; split <;> omega
  have ny : ∀ a b, lY k (-a) (-b) = -(lY k a b) := fun a b => by unfold lY; split <;> omega
  rw [nx, ny, ex, ey] at h1
  rwa [show e - e' = -e' + e by omega, show f - f' = -f' + f by omega]
/-- A translation, seen by a symmetry. -/
theorem Sy.conj {p : List ByteArray} {k : Nat} (hk : k < 8) {e f s t : Int} (h : Sy p k e f) (ht : Sy p 0 s t) : Sy p 0 (lX k s t) (lY k s t) := by
  have h1 := h.comp hk (by omega) ht
  have : cmpK k 0 = k := by rcases k8_cases hk with rfl | rfl | rfl | rfl | rfl | rfl | rfl | rfl <;> rfl
  rw [this] at h1
  have h2 := h1.diff hk h
  rwa [Int.add_sub_cancel, Int.add_sub_cancel] at h2
theorem Sy.perX (p : List ByteArray) (n : Int) : Sy p 0 (wd p * n) 0 := fun x y => by
  have := col_shift p x y n 0
  simpa [lX, lY] using this
theorem Sy.perY (p : List ByteArray) (n : Int) : Sy p 0 0 (p.length * n) := fun x y => by
  have := col_shift p x y 0 n
  simpa [lX, lY] using this

/-! ### keeps is a symmetry -/
theorem knd_toX {k : Nat} (hk : k < 8) (x y e f : Int) (hx : -1000 ≤ x ∧ x ≤ 1000) (hy : -1000 ≤ y ∧ y ≤ 1000) (he : -1000 ≤ e ∧ e ≤ 1000) : (knd k e f).toX x y = lX k x y + e := by
  rcases k8_cases hk with rfl | rfl | rfl | rfl | rfl | rfl | rfl | rfl <;> simp [knd, kinds, Mv.toX, lX, wrap64] <;> omega
theorem knd_toY {k : Nat} (hk : k < 8) (x y e f : Int) (hx : -1000 ≤ x ∧ x ≤ 1000) (hy : -1000 ≤ y ∧ y ≤ 1000) (he : -1000 ≤ f ∧ f ≤ 1000) : (knd k e f).toY x y = lY k x y + f := by
  rcases k8_cases hk with rfl | rfl | rfl | rfl | rfl | rfl | rfl | rfl <;> simp [knd, kinds, Mv.toY, lY, wrap64] <;> omega
theorem keepsB_iff {p : List ByteArray} (hp : PatOk p) {k : Nat} (hk : k < 8) {e f : Int} (he : -1000 ≤ e ∧ e ≤ 1000) (hf : -1000 ≤ f ∧ f ≤ 1000) : keepsB p (knd k e f) = true ↔ Sy p k e f := by
  have hn := hp.area
  have h1 := hp.h1
  have h2 := hp.w1
  obtain ⟨n, hN⟩ : ∃ n, n = wd p * p.length := ⟨_, rfl⟩
  have hn0 : 1 ≤ n := by rw [hN]; exact Nat.mul_pos h2 h1
  have key : ∀ x y : Nat, x < n → y < n → (keepC p (knd k e f) y x = true ↔ col p (lX k x y + e) (lY k x y + f) = col p x y) := fun x y hx hy => by
    unfold keepC
    rw [knd_toX hk _ _ _ _ (by omega) (by omega) he, knd_toY hk _ _ _ _ (by omega) (by omega) hf]
    exact beq_iff_eq
  unfold keepsB keepR
  rw [← hN, List.all_eq_true]
  constructor
  · intro h x y
    have hnI : (0 : Int) < n := by omega
    obtain ⟨x0, hx0⟩ : ∃ x0 : Nat, x % n = x0 := ⟨(x % n).toNat, by have := Int.emod_nonneg x (show (n : Int) ≠ 0 by omega); omega⟩
    obtain ⟨y0, hy0⟩ : ∃ y0 : Nat, y % n = y0 := ⟨(y % n).toNat, by have := Int.emod_nonneg y (show (n : Int) ≠ 0 by omega); omega⟩
    have hxl := Int.emod_lt_of_pos x hnI
    have hyl := Int.emod_lt_of_pos y hnI
    have h3 := (key x0 y0 (by omega) (by omega)).1 (List.all_eq_true.1 (h y0 (List.mem_range.2 (by omega))) x0 (List.mem_range.2 (by omega)))
    have ex : x = x0 + n * (x / n) := by rw [← hx0]; exact (Int.emod_add_mul_ediv x n).symm
    have ey : y = y0 + n * (y / n) := by rw [← hy0]; exact (Int.emod_add_mul_ediv y n).symm
    generalize x / (n : Int) = a at ex
    generalize y / (n : Int) = b at ey
    subst ex
    subst ey
    rw [lX_lin, lY_lin]
    have s1 := col_shift p x0 y0 (p.length * a) (wd p * b)
    have s2 := col_shift p (lX k x0 y0 + e) (lY k x0 y0 + f) (p.length * lX k a b) (wd p * lY k a b)
    have hNI : (n : Int) = wd p * p.length := by rw [hN, Int.natCast_mul]
    rw [show (x0 : Int) + n * a = x0 + wd p * (p.length * a) by rw [hNI, Int.mul_assoc], show (y0 : Int) + n * b = y0 + p.length * (wd p * b) by rw [hNI, Int.mul_comm (wd p : Int), Int.mul_assoc], s1, ← h3, ← s2]
    congr 1
    · rw [hNI]; grind
    · rw [hNI]; grind
  · intro h y hy
    rw [List.all_eq_true]
    intro x hx
    exact (key x y (List.mem_range.1 hx) (List.mem_range.1 hy)).2 (h x y)
theorem shB_iff {p : List ByteArray} (hp : PatOk p) {x y : Nat} (hx : x ≤ 1000) (hy : y ≤ 1000) : shB p x y = true ↔ Sy p 0 x y := keepsB_iff hp (k := 0) (by omega) (by omega) (by omega)

/-! ### The lattice -/
theorem IsLat.a6 {p : List ByteArray} {g : Gd} (hp : PatOk p) (h : IsLat p g) : g.A ≤ 6 ∧ g.D ≤ 6 ∧ g.B < 6 := by
  have := h.aw; have := h.dh; have := h.bd; have := hp.w6; have := hp.h6; omega
theorem IsLat.syD {p : List ByteArray} {g : Gd} (hp : PatOk p) (h : IsLat p g) : Sy p 0 0 g.D := by
  by_cases hd : g.D < p.length
  · have := (shB_iff hp (by omega) (by have := h.a6 hp; omega)).1 (h.dhit hd)
    simpa using this
  · have := Sy.perY p 1
    rwa [Int.mul_one, show (p.length : Int) = g.D by have := h.dh; omega] at this
theorem IsLat.syA {p : List ByteArray} {g : Gd} (hp : PatOk p) (h : IsLat p g) : Sy p 0 g.A g.B := by
  by_cases hd : g.A < wd p
  · exact (shB_iff hp (by have := h.a6 hp; omega) (by have := h.a6 hp; omega)).1 (h.ahit hd).1
  · have := Sy.perX p 1
    rw [Int.mul_one, show (wd p : Int) = g.A by have := h.aw; omega] at this
    rw [h.awd (by have := h.aw; omega)]
    exact this
theorem IsLat.divD {p : List ByteArray} {g : Gd} (hp : PatOk p) (h : IsLat p g) {y : Int} (hy : Sy p 0 0 y) : y % g.D = 0 := by
  have hD := h.d1
  have h6 := h.a6 hp
  have h1 := hy.sub (by omega) ((h.syD hp).mul (y / g.D))
  have h2 := Int.emod_nonneg y (show (g.D : Int) ≠ 0 by omega)
  have h3 := Int.emod_lt_of_pos y (show (0 : Int) < g.D by omega)
  rw [show y - y / g.D * g.D = y % g.D by rw [Int.emod_def, Int.mul_comm], Int.mul_zero, Int.sub_zero] at h1
  obtain ⟨r, hr⟩ : ∃ r : Nat, y % g.D = r := ⟨(y % g.D).toNat, by omega⟩
  rw [hr] at h1 h3 ⊢
  by_cases h0 : 1 ≤ r
  · have := h.dmin r h0 (by omega)
    rw [(shB_iff hp (by omega) (by omega)).2 (by simpa using h1)] at this
    cases this
  · omega
theorem IsLat.divA {p : List ByteArray} {g : Gd} (hp : PatOk p) (h : IsLat p g) {x y : Int} (hy : Sy p 0 x y) : x % g.A = 0 := by
  have hA := h.a1
  have hD := h.d1
  have h6 := h.a6 hp
  have h1 := hy.sub (by omega) ((h.syA hp).mul (x / g.A))
  have h2 := Int.emod_nonneg x (show (g.A : Int) ≠ 0 by omega)
  have h3 := Int.emod_lt_of_pos x (show (0 : Int) < g.A by omega)
  rw [show x - x / g.A * g.A = x % g.A by rw [Int.emod_def, Int.mul_comm]] at h1
  generalize y - x / g.A * g.B = z at h1
  have h4 := h1.sub (by omega) ((h.syD hp).mul (z / g.D))
  have h5 := Int.emod_nonneg z (show (g.D : Int) ≠ 0 by omega)
  have h7 := Int.emod_lt_of_pos z (show (0 : Int) < g.D by omega)
  rw [show z - z / g.D * g.D = z % g.D by rw [Int.emod_def, Int.mul_comm], Int.mul_zero, Int.sub_zero] at h4
  obtain ⟨r, hr⟩ : ∃ r : Nat, x % g.A = r := ⟨(x % g.A).toNat, by omega⟩
  obtain ⟨s, hs⟩ : ∃ s : Nat, z % g.D = s := ⟨(z % g.D).toNat, by omega⟩
  rw [hr] at h4 h3 ⊢
  rw [hs] at h4 h7
  by_cases h0 : 1 ≤ r
  · have := h.amin r h0 (by omega) s (by omega)
    rw [(shB_iff hp (by omega) (by omega)).2 h4] at this
    cases this
  · omega
/-- The lattice is all translations. -/
theorem IsLat.iff {p : List ByteArray} {g : Gd} (hp : PatOk p) (h : IsLat p g) (x y : Int) : Sy p 0 x y ↔ x % g.A = 0 ∧ (y - x / g.A * g.B) % g.D = 0 := by
  have e : ∀ {x : Int}, x % g.A = 0 → x - x / g.A * g.A = 0 := fun {x} hx => by
    have := Int.emod_def x g.A
    rw [Int.mul_comm] at this
    omega
  constructor
  · intro hs
    have h1 := h.divA hp hs
    refine ⟨h1, h.divD hp ?_⟩
    have h2 := hs.sub (by omega) ((h.syA hp).mul (x / g.A))
    rwa [e h1] at h2
  · rintro ⟨h1, h2⟩
    have h3 := ((h.syA hp).mul (x / g.A)).add (by omega) ((h.syD hp).mul ((y - x / g.A * g.B) / g.D))
    have e2 := Int.emod_def (y - x / g.A * g.B) g.D
    rw [Int.mul_comm (g.D : Int)] at e2
    have e1 := e h1
    rw [Int.mul_zero, Int.add_zero] at h3
    have e3 : x / g.A * g.A = x := by omega
    have e4 : x / g.A * g.B + (y - x / g.A * g.B) / g.D * g.D = y := by
      rw [h2] at e2
      generalize (y - x / g.A * g.B) / g.D * g.D = u at *
      omega
    rwa [e3, e4] at h3
/-- has is a symmetry. -/
theorem hasB_iff {p : List ByteArray} {g : Gd} (hp : PatOk p) (h : IsLat p g) {k : Nat} (hk : k < 8) (e f : Int) : hasB p g k e f = true ↔ Sy p k e f := by
  have hA := h.a1
  have hD := h.d1
  have h6 := h.a6 hp
  have h2 := Int.emod_nonneg e (show (g.A : Int) ≠ 0 by omega)
  have h3 := Int.emod_lt_of_pos e (show (0 : Int) < g.A by omega)
  have h5 := Int.emod_nonneg (f - e / g.A * g.B) (show (g.D : Int) ≠ 0 by omega)
  have h7 := Int.emod_lt_of_pos (f - e / g.A * g.B) (show (0 : Int) < g.D by omega)
  obtain ⟨r, hr⟩ : ∃ r : Nat, e % g.A = r := ⟨(e % g.A).toNat, by omega⟩
  obtain ⟨s, hs⟩ : ∃ s : Nat, (f - e / g.A * g.B) % g.D = s := ⟨((f - e / g.A * g.B) % g.D).toNat, by omega⟩
  have ht : Sy p 0 (e - r) (f - s) := by
    have h8 := ((h.syA hp).mul (e / g.A)).add (by omega) ((h.syD hp).mul ((f - e / g.A * g.B) / g.D))
    have e1 := Int.emod_def e g.A
    have e2 := Int.emod_def (f - e / g.A * g.B) g.D
    rw [Int.mul_comm] at e1
    rw [Int.mul_comm (g.D : Int)] at e2
    rw [Int.mul_zero, Int.add_zero] at h8
    have e3 : e / g.A * g.A = e - r := by omega
    have e4 : e / g.A * g.B + (f - e / g.A * g.B) / g.D * g.D = f - s := by
      rw [hs] at e2
      generalize (f - e / g.A * g.B) / g.D * g.D = u at *
      omega
    rwa [e3, e4] at h8
  have hdef : hasB p g k e f = keepsB p (knd k r s) := by
    unfold hasB ownB redX redY
    rw [hr, hs, Int.toNat_natCast, Int.toNat_natCast, decide_eq_true (by omega), Bool.true_and]
  rw [hdef, keepsB_iff hp hk (by omega) (by omega)]
  constructor
  · intro h1
    have := h1.add hk ht
    rwa [show (r : Int) + (e - r) = e by omega, show (s : Int) + (f - s) = f by omega] at this
  · intro h1
    have := h1.sub hk ht
    rwa [show e - (e - (r : Int)) = r by omega, show f - (f - (s : Int)) = s by omega] at this
/-- What stands in the list of symmetries. -/
theorem mem_symL {p : List ByteArray} {g : Gd} (hp : PatOk p) (h : IsLat p g) (m : Mv) : m ∈ symL p g ↔ ∃ k e f : Nat, k < 8 ∧ e < g.A ∧ f < g.D ∧ m = knd k e f ∧ Sy p k e f := by
  have h6 := h.a6 hp
  unfold symL
  simp only [List.mem_flatMap, List.mem_filterMap, List.mem_range]
  constructor
  · rintro ⟨k, hk, e, he, f, hf, h1⟩
    split at h1
    · rename_i h2
      injection h1 with h1
      exact ⟨k, e, f, hk, he, hf, h1.symm, (keepsB_iff hp hk (by omega) (by omega)).1 h2⟩
    · cases h1
  · rintro ⟨k, e, f, hk, he, hf, rfl, h1⟩
    exact ⟨k, hk, e, he, f, hf, by rw [if_pos ((keepsB_iff hp hk (by omega) (by omega)).2 h1)]⟩
/-- Each symmetry has one of its class in the list. -/
theorem Sy.class {p : List ByteArray} {g : Gd} (hp : PatOk p) (h : IsLat p g) {k : Nat} (hk : k < 8) {e f : Int} (hs : Sy p k e f) : ∃ r s : Nat, r < g.A ∧ s < g.D ∧ Sy p k r s ∧ Sy p 0 (e - r) (f - s) := by
  have hA := h.a1
  have hD := h.d1
  have h1 := (hasB_iff hp h hk e f).2 hs
  have h2 := Int.emod_nonneg e (show (g.A : Int) ≠ 0 by omega)
  have h3 := Int.emod_lt_of_pos e (show (0 : Int) < g.A by omega)
  have h5 := Int.emod_nonneg (f - e / g.A * g.B) (show (g.D : Int) ≠ 0 by omega)
  have h7 := Int.emod_lt_of_pos (f - e / g.A * g.B) (show (0 : Int) < g.D by omega)
  have h6 := h.a6 hp
  unfold hasB ownB at h1
  rw [Bool.and_eq_true, decide_eq_true_eq] at h1
  have hs' := (keepsB_iff hp hk (by unfold redX; omega) (by unfold redY; omega)).1 h1.2
  exact ⟨_, _, h1.1.1, h1.1.2, hs', hs.diff hk hs'⟩
end Go.Proofs.YteibbnmlmbhkpaaDoor
