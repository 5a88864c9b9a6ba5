/-
  Plain: a pattern after a move; builders and what is kept below a block.
-/
import Derived.Test.YteibbnmlmbhkpaaDoorMW2
import Derived.Test.YteibbnmlmbhkpaaDoorLawP1
import Derived.Below
import Derived.Lib.Builder
namespace Go.Proofs.YteibbnmlmbhkpaaDoor
open Go.RowKit
set_option linter.unusedVariables false
set_option linter.unusedSimpArgs false
set_option maxRecDepth 100000

def col8 (p : List ByteArray) (x y : Int) : UInt8 := (p.getD (y % p.length).toNat empty).data.getD (x % wd p).toNat 0
theorem col_col8 (p : List ByteArray) (x y : Int) : col p x y = (col8 p x y).toNat := rfl
/-- Where the cell was that a move takes to a cell. -/
def unX (m : Mv) (x y : Int) : Int := m.a * (x - m.e) + m.c * (y - m.f)
def unY (m : Mv) (x y : Int) : Int := m.b * (x - m.e) + m.d * (y - m.f)
def apW (p : List ByteArray) (m : Mv) : Nat := if m.a = 0 then p.length else wd p
def apH (p : List ByteArray) (m : Mv) : Nat := if m.a = 0 then wd p else p.length
def apRow (p : List ByteArray) (m : Mv) (y n : Nat) : List UInt8 := (List.range n).map fun (x : Nat) => col8 p (unX m x y) (unY m x y)
def apS (p : List ByteArray) (m : Mv) (y : Nat) : ByteArray := ⟨(apRow p m y (apW p m)).toArray⟩
def apL (p : List ByteArray) (m : Mv) (n : Nat) : List ByteArray := (List.range n).map (apS p m)
theorem apRow_succ (p : List ByteArray) (m : Mv) (y n : Nat) : apRow p m y (n + 1) = apRow p m y n ++ [col8 p (unX m n y) (unY m n y)] := by
  unfold apRow; rw [List.range_succ, List.map_append]; rfl
theorem apRow_len (p : List ByteArray) (m : Mv) (y n : Nat) : (apRow p m y n).length = n := by simp [apRow]
theorem apL_succ (p : List ByteArray) (m : Mv) (n : Nat) : apL p m (n + 1) = apL p m n ++ [apS p m n] := by
  unfold apL; rw [List.range_succ, List.map_append]; rfl
theorem apL_len (p : List ByteArray) (m : Mv) (n : Nat) : (apL p m n).length = n := by simp [apL]
theorem apWH {p : List ByteArray} (hp : PatOk p) (m : Mv) : (1 ≤ apW p m ∧ apW p m ≤ 6) ∧ (1 ≤ apH p m ∧ apH p m ≤ 6) := by
  have := hp.h1; have := hp.h6; have := hp.w1; have := hp.w6
  unfold apW apH
  split <;> omega
/-- May a move be applied? -/
def apOk (p : List ByteArray) (m : Mv) : Bool := isPat p && decide (0 ≤ kindOf m ∧ (-1000 ≤ m.e ∧ m.e ≤ 1000) ∧ (-1000 ≤ m.f ∧ m.f ≤ 1000))
theorem kindOf_kn {m : Mv} (h : 0 ≤ kindOf m) : ∃ k : Nat, k < 8 ∧ m = knd k m.e m.f := by
  unfold kindOf kindIx at h
  split at h
  · rename_i i hi
    rw [List.findIdx?_eq_some_iff_getElem] at hi
    obtain ⟨hl, h1, _⟩ := hi
    have hl8 : i < 8 := by simpa [kinds] using hl
    rw [decide_eq_true_eq] at h1
    refine ⟨i, hl8, ?_⟩
    have h2 := kinds_at i hl8
    rw [List.getElem?_eq_getElem hl] at h2
    injection h2 with h2
    rw [h2] at h1
    obtain ⟨a, b, c, d, e, f⟩ := m
    have h3 : knd i 0 0 = ⟨a, b, c, d, 0, 0⟩ := h1
    show (⟨a, b, c, d, e, f⟩ : Mv) = { knd i 0 0 with e := e, f := f }
    rw [h3]
  · omega
theorem kindOf_small {m : Mv} (h : 0 ≤ kindOf m) : SmallM m := by
  obtain ⟨k, hk, he⟩ := kindOf_kn h
  have := (okM_knd hk (e := 0) (f := 0) (by omega) (by omega)).1
  rw [he]
  exact this
theorem back_to {m : Mv} (hm : SmallM m) (he : -1000 ≤ m.e ∧ m.e ≤ 1000) (hf : -1000 ≤ m.f ∧ m.f ≤ 1000) {x y : Int} (hx : 0 ≤ x ∧ x ≤ 100) (hy : 0 ≤ y ∧ y ≤ 100) : (backM m).toX x y = unX m x y ∧ (backM m).toY x y = unY m x y := by
  obtain ⟨a, b, c, d, e, f⟩ := m
  obtain ⟨ha, hb, hc, hd⟩ := hm
  simp only at ha hb hc hd he hf
  have h3 : ∀ z : Int, -1 ≤ z ∧ z ≤ 1 → z = -1 ∨ z = 0 ∨ z = 1 := fun z hz => by omega
  constructor
  · show wrap64 (wrap64 (wrap64 (a * x) + wrap64 (c * y)) + wrap64 (-(wrap64 (wrap64 (wrap64 (a * e) + wrap64 (c * f)) + 0)))) = a * (x - e) + c * (y - f)
    rcases h3 a ha with rfl | rfl | rfl <;> rcases h3 c hc with rfl | rfl | rfl <;> unfold wrap64 <;> omega
  · show wrap64 (wrap64 (wrap64 (b * x) + wrap64 (d * y)) + wrap64 (-(wrap64 (wrap64 (wrap64 (b * e) + wrap64 (d * f)) + 0)))) = b * (x - e) + d * (y - f)
    rcases h3 b hb with rfl | rfl | rfl <;> rcases h3 d hd with rfl | rfl | rfl <;> unfold wrap64 <;> omega

/-! ### Below -/
theorem Has.keepB {w w' : World} {M : MS} {B : Nat} (h : Has w M) (hs : w.heap.size ≤ B) (hb : Below B w w') : Has w' M := fun i => by
  obtain ⟨h1, h2, h3⟩ := h i
  refine ⟨h1, fun hi => Nat.lt_of_lt_of_le (h2 hi) hb.size, fun o ho => ?_⟩
  have h4 := h3 o ho
  have hi : i < w.heap.size := (Array.getElem?_eq_some_iff.1 h4).1
  rw [hb.block i (by omega), h4]
theorem Below.ext {B : Nat} {w w' : World} (h : Below B w w') : Ext w w' := ⟨h.os, h.tape, h.output, h.size⟩
theorem Kp.blk {w w' : World} (h : Kp w w') {i : Nat} {o : Obj} (ho : w.heap[i]? = some o) : w'.heap[i]? = some o := (h.1 _ (Has.all w) i).2.2 o (.inl ho)
theorem Kp.below {w w' : World} (h : Kp w w') (B : Nat) (hB : B ≤ w.heap.size) : Below B w w' :=
  ⟨h.2.os, h.2.tape, h.2.output, h.2.size, fun k hk => by
    obtain ⟨o, ho⟩ : ∃ o, w.heap[k]? = some o := ⟨w.heap[k]'(by omega), by simp [show k < w.heap.size by omega]⟩
    rw [ho, h.blk ho]⟩
theorem bat_kp {w w' : World} {T e : TypeId} {B b : Nat} {p : Value} {bs : List Value} (k : Kp w w') (h : Lib.BuilderAt T e B b p bs w) : Lib.BuilderAt T e B b p bs w' := by
  obtain ⟨h1, v, h2, ⟨h3, h4⟩, h5⟩ := h
  refine ⟨h1, v, k.blk h2, ⟨h3, ?_⟩, h5⟩
  rcases h4 with h4 | ⟨g, cap, cur, r1, r2, r3, r4⟩
  · exact .inl h4
  · exact .inr ⟨g, cap, cur, r1, r2, k.blk r3, r4⟩
theorem isb_kp {w w' : World} {T e : TypeId} {B b : Nat} {bs : List Value} (k : Kp w w') (h : Lib.IsBuilder T e B b bs w) : Lib.IsBuilder T e B b bs w' := h.elim (fun h => .inl (bat_kp k h)) (fun h => .inr (bat_kp k h))
theorem isb_new (w : World) : Lib.IsBuilder 83 5 w.heap.size w.heap.size [] (w.alloc (.cells #[.pointer none, .slice none 0 0] 83)) :=
  .inl ⟨Nat.le_refl _, .slice none 0 0, heap_alloc_new _ _, ⟨by simp, .inl ⟨rfl, rfl⟩⟩, by simp [Value.ownBlock]⟩
theorem below_alloc (w : World) (o : Obj) : Below w.heap.size w (w.alloc o) := (show Kp w (w.alloc o) from ⟨fun M hM => hM.of_all ((Has.all w).alloc o), Ext.alloc _ _⟩).below _ (Nat.le_refl _)
end Go.Proofs.YteibbnmlmbhkpaaDoor
