/-
  A small separation logic for the walks: what blocks a call owns, as a sum. Plain definitions and theorems; nothing of the program.
-/
import Derived.WalkKit
import Derived.WalkSpells
import Derived.WalkLawsBesides
namespace Go.Proofs.Ytnkgfgkgepadhaa
open Go.RowKit

/-- A fact kept from the walk. -/
theorem hid {p : Prop} (h : p) : Hid p := h

/-! ### Sums of blocks -/
/-- A claim on memory: how often each block is claimed, and what is claimed to stand in it. -/
structure MS where
  f : Nat → Nat
  g : Nat → Obj → Prop
  ok : ∀ i o, g i o → 1 ≤ f i

namespace MS
theorem ext' {a b : MS} (hf : a.f = b.f) (hg : a.g = b.g) : a = b := by
  cases a; cases b; simp at hf hg; subst hf; subst hg; rfl
instance : Add MS := ⟨fun a b => ⟨fun i => a.f i + b.f i, fun i o => a.g i o ∨ b.g i o, fun i o h => by
  rcases h with h | h
  · have := a.ok i o h; omega
  · have := b.ok i o h; omega⟩⟩
instance : Zero MS := ⟨⟨fun _ => 0, fun _ _ => False, fun _ _ h => h.elim⟩⟩
theorem add_f (a b : MS) (i : Nat) : (a + b).f i = a.f i + b.f i := rfl
theorem add_g (a b : MS) (i : Nat) (o : Obj) : (a + b).g i o = (a.g i o ∨ b.g i o) := rfl
theorem zero_f (i : Nat) : (0 : MS).f i = 0 := rfl
theorem zero_g (i : Nat) (o : Obj) : (0 : MS).g i o = False := rfl
theorem add_comm (a b : MS) : a + b = b + a :=
  ext' (funext fun i => by simp only [add_f]; omega) (funext fun i => funext fun o => by simp only [add_g]; exact propext Or.comm)
theorem add_assoc (a b c : MS) : a + b + c = a + (b + c) :=
  ext' (funext fun i => by simp only [add_f]; omega) (funext fun i => funext fun o => by simp only [add_g]; exact propext or_assoc)
theorem zero_add (a : MS) : 0 + a = a :=
  ext' (funext fun i => by simp only [add_f, zero_f]; omega) (funext fun i => funext fun o => by simp only [add_g, zero_g, false_or])
theorem add_zero (a : MS) : a + 0 = a := by rw [add_comm, zero_add]
instance : Std.Associative (α := MS) (· + ·) := ⟨add_assoc⟩
instance : Std.Commutative (α := MS) (· + ·) := ⟨add_comm⟩
theorem left_comm (a b c : MS) : a + (b + c) = b + (a + c) := by rw [← add_assoc, add_comm a b, add_assoc]
end MS

/-- One block, whole. -/
def pts (b : Nat) (o : Obj) : MS := ⟨fun i => if i = b then 1 else 0, fun i x => i = b ∧ x = o, fun i x h => by simp [h.1]⟩
/-- A row of cells. -/
def blk (b : Nat) (cs : Array Value) (e : TypeId) : MS := pts b (.cells cs e (0, 0))

/-- The world bears the claim: no block is claimed twice, each claimed one is there, as claimed. -/
def Has (w : World) (m : MS) : Prop := ∀ i, m.f i ≤ 1 ∧ (1 ≤ m.f i → i < w.heap.size) ∧ ∀ o, m.g i o → w.heap[i]? = some o

/-- The streams are as they were; no block has gone. -/
structure Ext (w w' : World) : Prop where
  os : w'.os = w.os
  tape : w'.tape = w.tape
  output : w'.output = w.output
  size : w.heap.size ≤ w'.heap.size
theorem Ext.refl (w : World) : Ext w w := ⟨rfl, rfl, rfl, Nat.le_refl _⟩
theorem Ext.trans {a b c : World} (h : Ext a b) (k : Ext b c) : Ext a c := ⟨k.os.trans h.os, k.tape.trans h.tape, k.output.trans h.output, Nat.le_trans h.size k.size⟩
theorem Ext.drew (w : World) : Ext w w.drew := ⟨rfl, rfl, rfl, Nat.le_refl _⟩
theorem Ext.drewN (w : World) (n : Nat) : Ext w (w.drewN n) := ⟨rfl, rfl, rfl, Nat.le_refl _⟩
theorem Ext.alloc (w : World) (o : Obj) : Ext w (w.alloc o) := ⟨rfl, rfl, rfl, by simp⟩
theorem Ext.setCell (w : World) (a : Addr) (v : Value) : Ext w (w.setCell a v) := ⟨rfl, rfl, rfl, by simp [World.setCell]⟩
theorem Ext.setRow (w : World) (b : Nat) (cs : Array Value) : Ext w (w.setRow b cs) := ⟨rfl, rfl, rfl, by simp⟩

section
variable {w w' : World} {a b c F : MS}
theorem Has.left (h : Has w (a + b)) : Has w a := fun i => by
  obtain ⟨h1, h2, h3⟩ := h i
  simp only [MS.add_f] at h1 h2
  exact ⟨by omega, fun hi => h2 (by omega), fun o ho => h3 o (Or.inl ho)⟩
theorem Has.right (h : Has w (a + b)) : Has w b := (MS.add_comm a b ▸ h : Has w (b + a)).left
theorem Has.eq (h : Has w a) (e : a = b) : Has w b := e ▸ h
theorem Has.heap (h : Has w a) (e : w'.heap = w.heap) : Has w' a := fun i => by rw [e]; exact h i
theorem Has.drew (h : Has w a) : Has w.drew a := h
theorem Has.drewN (h : Has w a) (n : Nat) : Has (w.drewN n) a := h
theorem Has.zero (w : World) : Has w 0 := fun i => ⟨by simp [MS.zero_f], fun h => by simp [MS.zero_f] at h, fun o h => by simp [MS.zero_g] at h⟩
theorem Has.get {p : Nat} {o : Obj} (h : Has w (pts p o + F)) : w.heap[p]? = some o := (h p).2.2 o (Or.inl ⟨rfl, rfl⟩)
theorem Has.lt {p : Nat} {o : Obj} (h : Has w (pts p o + F)) : p < w.heap.size := (Array.getElem?_eq_some_iff.1 h.get).1
/-- The block's content turns, nothing else. -/
theorem Has.upd {p : Nat} {o o' : Obj} (h : Has w (pts p o + F)) (h1 : ∀ i, i ≠ p → w'.heap[i]? = w.heap[i]?) (h2 : w'.heap[p]? = some o') (h3 : w.heap.size ≤ w'.heap.size) :
    Has w' (pts p o' + F) := fun i => by
  obtain ⟨k1, k2, k3⟩ := h i
  have e : (pts p o' + F).f i = (pts p o + F).f i := rfl
  refine ⟨by rw [e]; exact k1, fun hi => Nat.lt_of_lt_of_le (k2 (by rw [← e]; exact hi)) h3, fun x hx => ?_⟩
  rcases hx with ⟨rfl, rfl⟩ | hx
  · exact h2
  · by_cases hip : i = p
    · subst hip
      have := F.ok i x hx
      have : (pts i o).f i = 1 := by simp [pts]
      rw [MS.add_f] at k1
      omega
    · rw [h1 i hip]; exact k3 x (Or.inr hx)
/-- A new block behind all others. -/
theorem Has.new {o : Obj} (h : Has w F) (h1 : ∀ i, i < w.heap.size → w'.heap[i]? = w.heap[i]?) (h2 : w'.heap[w.heap.size]? = some o) : Has w' (pts w.heap.size o + F) := fun i => by
  obtain ⟨k1, k2, k3⟩ := h i
  have hs : w.heap.size < w'.heap.size := (Array.getElem?_eq_some_iff.1 h2).1
  by_cases hi : i = w.heap.size
  · subst hi
    have h0 : F.f w.heap.size = 0 := by
      rcases Nat.eq_zero_or_pos (F.f w.heap.size) with h | h
      · exact h
      · exact absurd (k2 h) (by omega)
    refine ⟨by simp [MS.add_f, pts, h0], fun _ => hs, fun x hx => ?_⟩
    rcases hx with ⟨_, rfl⟩ | hx
    · exact h2
    · have := F.ok _ _ hx; omega
  · have e : (pts w.heap.size o + F).f i = F.f i := by simp [MS.add_f, pts, hi]
    refine ⟨by rw [e]; exact k1, fun h => by rw [e] at h; exact Nat.lt_trans (k2 h) hs, fun x hx => ?_⟩
    rcases hx with ⟨rfl, _⟩ | hx
    · exact absurd rfl hi
    · have hx' := k3 x hx
      rw [h1 i (Array.getElem?_eq_some_iff.1 hx').1]
      exact hx'
theorem Has.alloc (h : Has w F) (o : Obj) : Has (w.alloc o) (pts w.heap.size o + F) :=
  h.new (fun i hi => Below.heap_alloc w o i hi) (heap_alloc_new w o)
/-- All blocks of a world. -/
def MS.all (w : World) : MS := ⟨fun i => if i < w.heap.size then 1 else 0, fun i o => w.heap[i]? = some o, fun i o h => by
  have := (Array.getElem?_eq_some_iff.1 h).1
  simp [this]⟩
theorem Has.all (w : World) : Has w (MS.all w) := fun i => by
  refine ⟨?_, ?_, fun o h => h⟩
  · show (if _ then _ else _) ≤ 1
    split <;> omega
  · show 1 ≤ (if _ then _ else _) → _
    split
    · intro _; assumption
    · intro h; omega
theorem Has.below (h : Has w' (a + MS.all w)) (e : Ext w w') : Below w.heap.size w w' :=
  ⟨e.os, e.tape, e.output, e.size, fun k hk => by
    obtain ⟨o, ho⟩ : ∃ o, w.heap[k]? = some o := ⟨w.heap[k], by simp [hk]⟩
    rw [ho]
    exact ((h.right) k).2.2 o ho⟩

/-! ### Rows of cells -/
variable {p : Nat} {cs : Array Value} {e : TypeId}
theorem Has.row (h : Has w (blk p cs e + F)) : w.heap[p]? = some (.cells cs e (0, 0)) := h.get
theorem Has.cell (h : Has w (blk p cs e + F)) (i : Nat) : w.cell? ⟨p, i, none⟩ = cs[i]? := cell_of_row w p i cs e (0, 0) h.row
theorem Has.frozen (h : Has w (blk p cs e + F)) (i : Nat) : w.frozen? ⟨p, i, none⟩ = false := frozen_of_row w p i cs e h.row
theorem Has.setCell (h : Has w (blk p cs e + F)) (i : Nat) (v : Value) : Has (w.setCell ⟨p, i, none⟩ v) (blk p (cs.setIfInBounds i v) e + F) :=
  h.upd (fun k hk => heap_setCell_other w _ k v hk) (heap_setCell_same w p i cs e v h.row) (by simp [World.setCell])
theorem Has.setRow (h : Has w (blk p cs e + F)) (cs' : Array Value) : Has (w.setRow p cs') (blk p cs' e + F) :=
  h.upd (fun k hk => setRow_other w p k _ hk) (setRow_heap w p cs cs' e (0, 0) h.row) (by simp)
end

end Go.Proofs.Ytnkgfgkgepadhaa
