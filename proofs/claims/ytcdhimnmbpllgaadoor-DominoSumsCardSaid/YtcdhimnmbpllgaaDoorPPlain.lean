/-
  Plain: patterns of square tiles.
-/
import Derived.Test.YtcdhimnmbpllgaaDoorPBase
namespace Go.Proofs.YtcdhimnmbpllgaaDoor
open Go.RowKit
set_option linter.unusedVariables false
set_option linter.unusedSimpArgs false

/-- A move. -/
structure Mv where
  a : Int
  b : Int
  c : Int
  d : Int
  e : Int
  f : Int
deriving DecidableEq
/-- Where a move takes a cell, as the machine computes it. -/
def Mv.toX (m : Mv) (x y : Int) : Int := wrap64 (wrap64 (wrap64 (m.a * x) + wrap64 (m.b * y)) + m.e)
def Mv.toY (m : Mv) (x y : Int) : Int := wrap64 (wrap64 (wrap64 (m.c * x) + wrap64 (m.d * y)) + m.f)
def empty : ByteArray := ⟨#[]⟩
/-- How wide a pattern is. -/
def wd (p : List ByteArray) : Nat := (p.getD 0 empty).size
def bt (s : ByteArray) (i : Nat) : Int := (s.data.getD i 0).toNat
/-- The colour of a cell. -/
def col (p : List ByteArray) (x y : Int) : Int := bt (p.getD (y % p.length).toNat empty) (x % wd p).toNat
/-- Go's remainder made positive. -/
theorem mod_go {n m : Int} (h0 : 0 < m) : -m < n.tmod m ∧ n.tmod m < m ∧ (n.tmod m + m).tmod m = n % m := by
  have e : n.tmod m = if 0 ≤ n then n % m else -((-n) % m) := tmod_eq_if n m
  have h3 := Int.emod_nonneg n (show m ≠ 0 by omega)
  have h4 := Int.emod_lt_of_pos n h0
  have h5 := Int.emod_nonneg (-n) (show m ≠ 0 by omega)
  have h6 := Int.emod_lt_of_pos (-n) h0
  have h1 : -m < n.tmod m ∧ n.tmod m < m := by rw [e]; split <;> omega
  refine ⟨h1.1, h1.2, ?_⟩
  rw [Int.tmod_eq_emod_of_nonneg (by omega), Int.add_emod_right]
  have h7 := Int.tmod_add_mul_tdiv n m
  have : n % m = (n.tmod m + m * n.tdiv m) % m := by rw [h7]
  rw [this, Int.add_mul_emod_self_left]
structure PatOk (p : List ByteArray) : Prop where
  h1 : 1 ≤ p.length
  h6 : p.length ≤ 6
  w1 : 1 ≤ wd p
  w6 : wd p ≤ 6
  rows : ∀ s ∈ p, s.size = wd p
theorem all_range_succ (p : Nat → Bool) (t : Nat) : (List.range (t + 1)).all p = ((List.range t).all p && p t) := by rw [List.range_succ, List.all_append]; simp
theorem all_range_false {n i : Nat} {p : Nat → Bool} (h : i < n) (hp : p i = false) : (List.range n).all p = false := by
  rw [List.all_eq_false]
  exact ⟨i, List.mem_range.2 h, by rw [hp]; decide⟩
/-- Does one cell, one row keep its colours? -/
def keepC (p : List ByteArray) (m : Mv) (y x : Nat) : Bool := col p (m.toX x y) (m.toY x y) == col p x y
def keepR (p : List ByteArray) (m : Mv) (y : Nat) : Bool := (List.range (wd p * p.length)).all (keepC p m y)
/-- Is a move a symmetry? -/
def keepsB (p : List ByteArray) (m : Mv) : Bool := (List.range (wd p * p.length)).all (keepR p m)
theorem PatOk.area {p : List ByteArray} (h : PatOk p) : wd p * p.length ≤ 36 := Nat.mul_le_mul h.w6 h.h6
/-- Is a translation a symmetry? -/
def shB (p : List ByteArray) (x y : Nat) : Bool := keepsB p ⟨1, 0, 0, 1, x, y⟩
structure Gd where
  A : Nat
  B : Nat
  D : Nat
deriving DecidableEq
/-- The lattice of a pattern. -/
structure IsLat (p : List ByteArray) (g : Gd) : Prop where
  d1 : 1 ≤ g.D
  dh : g.D ≤ p.length
  dmin : ∀ y, 1 ≤ y → y < g.D → shB p 0 y = false
  dhit : g.D < p.length → shB p 0 g.D = true
  a1 : 1 ≤ g.A
  aw : g.A ≤ wd p
  bd : g.B < g.D
  amin : ∀ x, 1 ≤ x → x < g.A → ∀ y, y < g.D → shB p x y = false
  ahit : g.A < wd p → shB p g.A g.B = true ∧ ∀ y, y < g.B → shB p g.A y = false
  awd : g.A = wd p → g.B = 0
theorem IsLat.uniq {p : List ByteArray} {g g' : Gd} (h : IsLat p g) (h' : IsLat p g') : g = g' := by
  have hD : g.D = g'.D := by
    rcases Nat.lt_trichotomy g.D g'.D with hl | hl | hl
    · have := h'.dmin g.D h.d1 hl
      rw [h.dhit (by have := h'.dh; omega)] at this; cases this
    · exact hl
    · have := h.dmin g'.D h'.d1 hl
      rw [h'.dhit (by have := h.dh; omega)] at this; cases this
  have hA : g.A = g'.A := by
    rcases Nat.lt_trichotomy g.A g'.A with hl | hl | hl
    · have := h'.amin g.A h.a1 hl g.B (by have := h.bd; omega)
      rw [(h.ahit (by have := h'.aw; omega)).1] at this; cases this
    · exact hl
    · have := h.amin g'.A h'.a1 hl g'.B (by have := h'.bd; omega)
      rw [(h'.ahit (by have := h.aw; omega)).1] at this; cases this
  have hB : g.B = g'.B := by
    by_cases hw : g.A = wd p
    · rw [h.awd hw, h'.awd (by omega)]
    · have h1 := h.ahit (by have := h.aw; omega)
      have h2 := h'.ahit (by have := h.aw; omega)
      rw [← hA] at h2
      rcases Nat.lt_trichotomy g.B g'.B with hl | hl | hl
      · have := h2.2 g.B hl
        rw [h1.1] at this; cases this
      · exact hl
      · have := h1.2 g'.B hl
        rw [h2.1] at this; cases this
  cases g; cases g'
  simp only at hD hA hB
  rw [hD, hA, hB]
end Go.Proofs.YtcdhimnmbpllgaaDoor
