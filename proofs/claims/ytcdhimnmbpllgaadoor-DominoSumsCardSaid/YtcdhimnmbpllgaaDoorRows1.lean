/-
  A small separation logic for the walks: what blocks a call owns, as a sum. Plain definitions and theorems; nothing of the program. Slices that a call owns, as claims on memory; append, make, clone over them. Plain theorems over any program.
-/
import Derived.WalkKit
import Derived.WalkSpells
import Derived.WalkLawsBesides
namespace Go.Proofs.YtcdhimnmbpllgaaDoor
open Go.RowKit

/-- A fact kept from the walk. -/
theorem hid {p : Prop} (h : p) : Hid p := h

/-! ### Sums of blocks -/
/-- A claim on memory: how often each block is claimed, what is claimed to stand in it, to be read (g) or to be kept only (k). -/
structure MS where
  f : Nat → Nat
  g : Nat → Obj → Prop
  k : Nat → Obj → Prop
  ok : ∀ i o, g i o ∨ k i o → 1 ≤ f i

namespace MS
theorem ext' {a b : MS} (hf : a.f = b.f) (hg : a.g = b.g) (hk : a.k = b.k) : a = b := by
  cases a; cases b; simp at hf hg hk; subst hf; subst hg; subst hk; rfl
instance : Add MS := ⟨fun a b => ⟨fun i => a.f i + b.f i, fun i o => a.g i o ∨ b.g i o, fun i o => a.k i o ∨ b.k i o, fun i o h => by
  rcases h with (h | h) | (h | h)
  · have := a.ok i o (.inl h); omega
  · have := b.ok i o (.inl h); omega
  · have := a.ok i o (.inr h); omega
  · have := b.ok i o (.inr h); omega⟩⟩
instance : Zero MS := ⟨⟨fun _ => 0, fun _ _ => False, fun _ _ => False, fun _ _ h => h.elim False.elim False.elim⟩⟩
theorem add_f (a b : MS) (i : Nat) : (a + b).f i = a.f i + b.f i := rfl
theorem add_g (a b : MS) (i : Nat) (o : Obj) : (a + b).g i o = (a.g i o ∨ b.g i o) := rfl
theorem add_k (a b : MS) (i : Nat) (o : Obj) : (a + b).k i o = (a.k i o ∨ b.k i o) := rfl
theorem zero_f (i : Nat) : (0 : MS).f i = 0 := rfl
theorem zero_g (i : Nat) (o : Obj) : (0 : MS).g i o = False := rfl
theorem zero_k (i : Nat) (o : Obj) : (0 : MS).k i o = False := rfl
theorem add_comm (a b : MS) : a + b = b + a :=
  ext' (funext fun i => by simp only [add_f]; omega) (funext fun i => funext fun o => by simp only [add_g]; exact propext Or.comm) (funext fun i => funext fun o => by simp only [add_k]; exact propext Or.comm)
theorem add_assoc (a b c : MS) : a + b + c = a + (b + c) :=
  ext' (funext fun i => by simp only [add_f]; omega) (funext fun i => funext fun o => by simp only [add_g]; exact propext or_assoc) (funext fun i => funext fun o => by simp only [add_k]; exact propext or_assoc)
theorem zero_add (a : MS) : 0 + a = a :=
  ext' (funext fun i => by simp only [add_f, zero_f]; omega) (funext fun i => funext fun o => by simp only [add_g, zero_g, false_or]) (funext fun i => funext fun o => by simp only [add_k, zero_k, false_or])
theorem add_zero (a : MS) : a + 0 = a := by rw [add_comm, zero_add]
instance : Std.Associative (α := MS) (· + ·) := ⟨add_assoc⟩
instance : Std.Commutative (α := MS) (· + ·) := ⟨add_comm⟩
theorem left_comm (a b c : MS) : a + (b + c) = b + (a + c) := by rw [← add_assoc, add_comm a b, add_assoc]
end MS

/-- One block, whole. -/
def pts (b : Nat) (o : Obj) : MS := ⟨fun i => if i = b then 1 else 0, fun i x => i = b ∧ x = o, fun _ _ => False, fun i x h => by simp [(h.resolve_right id).1]⟩
/-- A row of cells. -/
def blk (b : Nat) (cs : Array Value) (e : TypeId) : MS := pts b (.cells cs e (0, 0))

/-- The world bears the claim: no block is claimed twice, each claimed one is there, as claimed. -/
def Has (w : World) (m : MS) : Prop := ∀ i, m.f i ≤ 1 ∧ (1 ≤ m.f i → i < w.heap.size) ∧ ∀ o, m.g i o ∨ m.k i o → w.heap[i]? = some o

/-- The streams are as they were; no block has gone. -/
structure Ext (w w' : World) : Prop where
  os : w'.os = w.os
  tape : w'.tape = w.tape
  output : w'.output = w.output
  size : w.heap.size ≤ w'.heap.size
theorem Ext.refl (w : World) : Ext w w := ⟨rfl, rfl, rfl, Nat.le_refl _⟩
theorem Ext.trans {a b c : World} (h : Ext a b) (k : Ext b c) : Ext a c := ⟨k.os.trans h.os, k.tape.trans h.tape, k.output.trans h.output, Nat.le_trans h.size k.size⟩
theorem Ext.drew (w : World) : Ext w w.drew := ⟨rfl, rfl, rfl, Nat.le_refl _⟩
theorem Ext.drewN (w : World) (n : Nat) : Ext w (w.drewN n) := ⟨rfl, rfl, rfl, Nat.le_refl _⟩
theorem Ext.alloc (w : World) (o : Obj) : Ext w (w.alloc o) := ⟨rfl, rfl, rfl, by simp⟩
theorem Ext.setCell (w : World) (a : Addr) (v : Value) : Ext w (w.setCell a v) := ⟨rfl, rfl, rfl, by simp [World.setCell]⟩
theorem Ext.setRow (w : World) (b : Nat) (cs : Array Value) : Ext w (w.setRow b cs) := ⟨rfl, rfl, rfl, by simp⟩

section
variable {w w' : World} {a b c F : MS}
theorem Has.left (h : Has w (a + b)) : Has w a := fun i => by
  obtain ⟨h1, h2, h3⟩ := h i
  simp only [MS.add_f] at h1 h2
  exact ⟨by omega, fun hi => h2 (by omega), fun o ho => h3 o (ho.imp Or.inl Or.inl)⟩
theorem Has.right (h : Has w (a + b)) : Has w b := (MS.add_comm a b ▸ h : Has w (b + a)).left
theorem Has.eq (h : Has w a) (e : a = b) : Has w b := e ▸ h
theorem Has.heap (h : Has w a) (e : w'.heap = w.heap) : Has w' a := fun i => by rw [e]; exact h i
theorem Has.drew (h : Has w a) : Has w.drew a := h
theorem Has.drewN (h : Has w a) (n : Nat) : Has (w.drewN n) a := h
theorem Has.zero (w : World) : Has w 0 := fun i => ⟨by simp [MS.zero_f], fun h => by simp [MS.zero_f] at h, fun o h => by simp [MS.zero_g, MS.zero_k] at h⟩
theorem Has.get {p : Nat} {o : Obj} (h : Has w (pts p o + F)) : w.heap[p]? = some o := (h p).2.2 o (Or.inl (Or.inl ⟨rfl, rfl⟩))
theorem Has.lt {p : Nat} {o : Obj} (h : Has w (pts p o + F)) : p < w.heap.size := (Array.getElem?_eq_some_iff.1 h.get).1
/-- The block's content turns, nothing else. -/
theorem Has.upd {p : Nat} {o o' : Obj} (h : Has w (pts p o + F)) (h1 : ∀ i, i ≠ p → w'.heap[i]? = w.heap[i]?) (h2 : w'.heap[p]? = some o') (h3 : w.heap.size ≤ w'.heap.size) :
    Has w' (pts p o' + F) := fun i => by
  obtain ⟨k1, k2, k3⟩ := h i
  have e : (pts p o' + F).f i = (pts p o + F).f i := rfl
  refine ⟨by rw [e]; exact k1, fun hi => Nat.lt_of_lt_of_le (k2 (by rw [← e]; exact hi)) h3, fun x hx => ?_⟩
  have hy : (i = p ∧ x = o') ∨ (F.g i x ∨ F.k i x) := by
    rcases hx with (h | h) | (h | h)
    · exact .inl h
    · exact .inr (.inl h)
    · exact h.elim
    · exact .inr (.inr h)
  clear hx
  rcases hy with ⟨rfl, rfl⟩ | hx
  · exact h2
  · by_cases hip : i = p
    · subst hip
      have := F.ok i x hx
      have : (pts i o).f i = 1 := by simp [pts]
      rw [MS.add_f] at k1
      omega
    · rw [h1 i hip]; exact k3 x (hx.imp Or.inr Or.inr)
/-- A new block behind all others. -/
theorem Has.new {o : Obj} (h : Has w F) (h1 : ∀ i, i < w.heap.size → w'.heap[i]? = w.heap[i]?) (h2 : w'.heap[w.heap.size]? = some o) : Has w' (pts w.heap.size o + F) := fun i => by
  obtain ⟨k1, k2, k3⟩ := h i
  have hs : w.heap.size < w'.heap.size := (Array.getElem?_eq_some_iff.1 h2).1
  by_cases hi : i = w.heap.size
  · subst hi
    have h0 : F.f w.heap.size = 0 := by
      rcases Nat.eq_zero_or_pos (F.f w.heap.size) with h | h
      · exact h
      · exact absurd (k2 h) (by omega)
    refine ⟨by simp [MS.add_f, pts, h0], fun _ => hs, fun x hx => ?_⟩
    rcases hx with (⟨_, rfl⟩ | hx) | (hx | hx)
    · exact h2
    · have := F.ok _ _ (.inl hx); omega
    · exact hx.elim
    · have := F.ok _ _ (.inr hx); omega
  · have e : (pts w.heap.size o + F).f i = F.f i := by simp [MS.add_f, pts, hi]
    refine ⟨by rw [e]; exact k1, fun h => by rw [e] at h; exact Nat.lt_trans (k2 h) hs, fun x hx => ?_⟩
    have hx' : F.g i x ∨ F.k i x := by
      rcases hx with (hx | hx) | (hx | hx)
      · exact absurd hx.1 hi
      · exact .inl hx
      · exact hx.elim
      · exact .inr hx
    have hx' := k3 x hx'
    rw [h1 i (Array.getElem?_eq_some_iff.1 hx').1]
    exact hx'
theorem Has.alloc (h : Has w F) (o : Obj) : Has (w.alloc o) (pts w.heap.size o + F) :=
  h.new (fun i hi => Below.heap_alloc w o i hi) (heap_alloc_new w o)
/-- All blocks of a world. -/
def MS.all (w : World) : MS := ⟨fun i => if i < w.heap.size then 1 else 0, fun i o => w.heap[i]? = some o, fun _ _ => False, fun i o h => by
  have := (Array.getElem?_eq_some_iff.1 (h.resolve_right id)).1
  simp [this]⟩
theorem Has.all (w : World) : Has w (MS.all w) := fun i => by
  refine ⟨?_, ?_, fun o h => h.resolve_right id⟩
  · show (if _ then _ else _) ≤ 1
    split <;> omega
  · show 1 ≤ (if _ then _ else _) → _
    split
    · intro _; assumption
    · intro h; omega
theorem Has.below (h : Has w' (a + MS.all w)) (e : Ext w w') : Below w.heap.size w w' :=
  ⟨e.os, e.tape, e.output, e.size, fun k hk => by
    obtain ⟨o, ho⟩ : ∃ o, w.heap[k]? = some o := ⟨w.heap[k], by simp [hk]⟩
    rw [ho]
    exact ((h.right) k).2.2 o (.inl ho)⟩

/-- A claim that is kept, but nothing of it is read. -/
def MS.hide (G : MS) : MS := ⟨G.f, fun _ _ => False, fun i o => G.g i o ∨ G.k i o, fun i o h => G.ok i o (h.resolve_left id)⟩
theorem Has.hide (h : Has w (a + b)) : Has w (a + b.hide) := fun i => by
  obtain ⟨h1, h2, h3⟩ := h i
  exact ⟨h1, h2, fun o ho => h3 o (by
    rcases ho with (h | h) | (h | h)
    · exact .inl (.inl h)
    · exact h.elim
    · exact .inr (.inl h)
    · exact h.imp Or.inr Or.inr)⟩
theorem Has.unhide (h : Has w (a + b.hide)) : Has w (a + b) := fun i => by
  obtain ⟨h1, h2, h3⟩ := h i
  exact ⟨h1, h2, fun o ho => h3 o (by
    rcases ho with (h | h) | (h | h)
    · exact .inl (.inl h)
    · exact .inr (.inr (.inl h))
    · exact .inr (.inl h)
    · exact .inr (.inr (.inr h)))⟩

/-! ### Rows of cells -/
variable {p : Nat} {cs : Array Value} {e : TypeId}
theorem Has.row (h : Has w (blk p cs e + F)) : w.heap[p]? = some (.cells cs e (0, 0)) := h.get
theorem Has.cell (h : Has w (blk p cs e + F)) (i : Nat) : w.cell? ⟨p, i, none⟩ = cs[i]? := cell_of_row w p i cs e (0, 0) h.row
theorem Has.frozen (h : Has w (blk p cs e + F)) (i : Nat) : w.frozen? ⟨p, i, none⟩ = false := frozen_of_row w p i cs e h.row
theorem Has.setCell (h : Has w (blk p cs e + F)) (i : Nat) (v : Value) : Has (w.setCell ⟨p, i, none⟩ v) (blk p (cs.setIfInBounds i v) e + F) :=
  h.upd (fun k hk => heap_setCell_other w _ k v hk) (heap_setCell_same w p i cs e v h.row) (by simp [World.setCell])
theorem Has.setRow (h : Has w (blk p cs e + F)) (cs' : Array Value) : Has (w.setRow p cs') (blk p cs' e + F) :=
  h.upd (fun k hk => setRow_other w p k _ hk) (setRow_heap w p cs cs' e (0, 0) h.row) (by simp)
end

end Go.Proofs.YtcdhimnmbpllgaaDoor

namespace Go.Proofs.YtcdhimnmbpllgaaDoor
open Go.RowKit
set_option linter.unusedVariables false

/-- 'Sl e sz v n xs m': the slice value v has n elements of type e (sz cells each), they are the cells xs; it owns the claim m (its whole block). -/
def Sl (e sz : Nat) (v : Value) (n : Nat) (xs : List Value) (m : MS) : Prop :=
  xs.length = n * sz ∧
  ((v = .slice none 0 0 ∧ n = 0 ∧ m = 0) ∨
   ∃ b off c cur, v = .slice (some ⟨b, off, none⟩) n c ∧ m = blk b cur e ∧ n ≤ c ∧ c ≤ maxLen ∧ off + c * sz ≤ cur.size ∧ ∀ j, j < n * sz → cur[off + j]? = xs[j]?)

theorem Sl.nil (e sz : Nat) : Sl e sz (.slice none 0 0) 0 [] 0 := ⟨by simp, .inl ⟨rfl, rfl, rfl⟩⟩
theorem Sl.form {e sz : Nat} {v : Value} {n : Nat} {xs : List Value} {m : MS} (h : Sl e sz v n xs m) : ∃ A c, v = .slice A n c ∧ (A = none → n = 0 ∧ c = 0) ∧ n ≤ c ∧ c ≤ maxLen := by
  rcases h.2 with ⟨rfl, rfl, _⟩ | ⟨b, off, c, cur, rfl, _, h1, h2, _⟩
  · exact ⟨none, 0, rfl, fun _ => ⟨rfl, rfl⟩, Nat.le_refl _, by simp [maxLen]⟩
  · exact ⟨_, c, rfl, (fun h => by cases h), h1, h2⟩
theorem Sl.len {e sz : Nat} {v : Value} {n : Nat} {xs : List Value} {m : MS} (h : Sl e sz v n xs m) : xs.length = n * sz := h.1
/-- Where there is an element: the block, the place, and how a store into it is read. -/
theorem Sl.at_ {e sz : Nat} {v : Value} {n : Nat} {xs : List Value} {m : MS} (h : Sl e sz v n xs m) (hn : 0 < n) :
    ∃ b off c cur, v = .slice (some ⟨b, off, none⟩) n c ∧ m = blk b cur e ∧ n ≤ c ∧ (∀ j, j < n * sz → cur[off + j]? = xs[j]?) ∧
      ∀ (cur' : Array Value) (xs' : List Value), cur'.size = cur.size → xs'.length = xs.length → (∀ j, j < n * sz → cur'[off + j]? = xs'[j]?) → Sl e sz v n xs' (blk b cur' e) := by
  rcases h.2 with ⟨_, rfl, _⟩ | ⟨b, off, c, cur, rfl, rfl, h1, h2, h3, h4⟩
  · omega
  · exact ⟨b, off, c, cur, rfl, rfl, h1, h4, fun cur' xs' hs hl hc => ⟨by rw [hl, h.1], .inr ⟨b, off, c, cur', rfl, rfl, h1, h2, by rw [hs]; exact h3, hc⟩⟩⟩
theorem Sl.set_ {e sz : Nat} {b off n : Nat} {cur : Array Value} {xs : List Value} {v : Value}
    (hput : ∀ (cur' : Array Value) (xs' : List Value), cur'.size = cur.size → xs'.length = xs.length → (∀ j, j < n * sz → cur'[off + j]? = xs'[j]?) → Sl e sz v n xs' (blk b cur' e))
    (hc : ∀ j, j < n * sz → cur[off + j]? = xs[j]?) (hl : xs.length = n * sz) {i : Nat} (hi : i < n * sz) (u : Value) : Sl e sz v n (xs.set i u) (blk b (cur.setIfInBounds (off + i) u) e) := by
  refine hput _ _ (by simp) (by simp) fun j hj => ?_
  have hin : off + i < cur.size := by
    have h := hc i hi
    rw [List.getElem?_eq_getElem (by omega)] at h
    exact (Array.getElem?_eq_some_iff.1 h).1
  by_cases hij : i = j
  · subst hij
    rw [Array.getElem?_setIfInBounds_self_of_lt hin, List.getElem?_set_self (by omega)]
  · rw [Array.getElem?_setIfInBounds_ne (by omega), List.getElem?_set_ne hij]
    exact hc j hj
/-- A new row of n elements, full. -/
theorem Sl.made {e sz n : Nat} (b : Nat) (cur : Array Value) (hm : n ≤ maxLen) (hs : cur.size = n * sz) : Sl e sz (.slice (some ⟨b, 0, none⟩) n n) n cur.toList (blk b cur e) :=
  ⟨by simpa using hs, .inr ⟨b, 0, n, cur, rfl, rfl, Nat.le_refl _, hm, by omega, fun j _ => by simp⟩⟩
/-- The cells of a slice that the world bears, as the laws on append ask for them. -/
theorem Sl.cells {w : World} {F : MS} {e sz : Nat} {A : Option Addr} {n c : Nat} {xs : List Value} {m : MS} (h : Sl e sz (.slice A n c) n xs m) (hH : Has w (m + F)) :
    ∀ ad, A = some ad → ∀ j u, xs[j]? = some u → w.cell? (ad.add j) = some u := by
  intro ad hA j u hu
  rcases h.2 with ⟨hv, _, _⟩ | ⟨b, off, c', cur, hv, rfl, h1, h2, h3, h4⟩
  · injection hv with hv; subst hv; cases hA
  · injection hv with hv
    subst hA
    injection hv with hv
    subst hv
    have hj : j < n * sz := by
      have := (List.getElem?_eq_some_iff.1 hu).1
      rw [h.1] at this; exact this
    rw [Addr.add_lit, hH.cell, h4 j hj, hu]

section
variable {P : Program} (w : World)
/-- append, the room is there, at an offset. -/
theorem run_append_room_at (t ty e : TypeId) (i : TypeInfo) (ht : P.underlying t = some (.slice e)) (hi : P.info? e = some i)
    (g off sLen sCap : Nat) (cur : Array Value) (hg : w.heap[g]? = some (.cells cur e (0, 0)))
    (ao : Option Addr) (m c : Nat) (news : List Value) (hl : news.length = m * i.size) (hnone : ao = none → m = 0) (hnews : ∀ a, ao = some a → ∀ j u, news[j]? = some u → w.cell? (a.add j) = some u) (h1 : ∀ u ∈ news, u.oneCell' = true)
    (hroom : sLen + m ≤ sCap) (hfit : off + sLen * i.size + news.length ≤ cur.size) :
    (Builtin.append_ #[t, t] ty #[.slice (some ⟨g, off, none⟩) sLen sCap, .slice ao m c]).run P w =
      .ok (.slice (some ⟨g, off, none⟩) (sLen + m) sCap) (w.setRow g (cur.toList.take (off + sLen * i.size) ++ news ++ cur.toList.drop (off + sLen * i.size + news.length)).toArray) := by
  have hst := run_storeCells_at P g (off + sLen * i.size) e news 0 cur w hg (by simpa using hfit) h1
  simp only [Nat.add_zero] at hst
  cases ao with
  | none =>
    have hm := hnone rfl
    subst hm
    have hn : news = [] := List.eq_nil_of_length_eq_zero (by simpa using hl)
    subst hn
    have hf := run_firstCells_none (P := P) w i.size 0 0 c
    simp [Builtin.append_, run_underlying ht, sizeOf, typeInfo, hi, Builtin.lenOf, Addr.add_lit, Builtin.firstCells, show sLen ≤ sCap by omega, hst]
  | some a =>
    have hf := run_firstCells_some (P := P) w i.size m a m c news hl (hnews a rfl)
    simp [Builtin.append_, run_underlying ht, sizeOf, typeInfo, hi, Builtin.lenOf, hroom, hf, Addr.add_lit, hst]
theorem run_append_same (t ty e : TypeId) (i : TypeInfo) (ht : P.underlying t = some (.slice e)) (hi : P.info? e = some i) (c : Nat) (ao : Option Addr) (hao : ao = none) :
    (Builtin.append_ #[t, t] ty #[.slice none 0 0, .slice ao 0 c]).run P w = .ok (.slice none 0 0) w := by
  subst hao
  simp [Builtin.append_, run_underlying ht, sizeOf, typeInfo, hi, Builtin.lenOf, Builtin.firstCells]
/-- append onto an owned row, whatever is appended: what it comes to. -/
theorem run_append_sl (t ty e : TypeId) (i : TypeInfo) (z : Value) (sz bytes : Nat) (ht : P.underlying t = some (.slice e)) (hi : P.info? e = some i) (hz : i.zero = some z)
    (hsize : i.size = sz) (hby : i.bytes = bytes) (hzs : z.cells.size = sz)
    (v : Value) (n : Nat) (xs : List Value) (m F : MS) (hown : Sl e sz v n xs m) (hH : Has w (m + F))
    (ao : Option Addr) (k c : Nat) (news : List Value) (hl : news.length = k * sz) (hnone : ao = none → k = 0) (hnews : ∀ a, ao = some a → ∀ j u, news[j]? = some u → w.cell? (a.add j) = some u) (h1 : ∀ u ∈ news, u.oneCell' = true)
    (h63 : n + k ≤ maxLen) (hbytes : (n + k) * bytes ≤ 140737488355328) :
    ∃ v' w' m', (Builtin.append_ #[t, t] ty #[v, .slice ao k c]).run P w = .ok v' w' ∧ Sl e sz v' (n + k) (xs ++ news) m' ∧ Has w' (m' + F) ∧ Ext w w' := by
  subst hsize
  subst hby
  have hsmall : n + k ≤ 9223372036854775807 := by simp only [maxLen] at h63; omega
  have hlen : (xs ++ news).length = (n + k) * i.size := by rw [List.length_append, hown.1, hl, Nat.add_mul]
  have hHF : Has w F := hH.right
  -- the new block, where it grows
  have grown : ∀ (old : Nat), old < n + k → ∃ m', Sl e i.size (.slice (some ⟨w.heap.size, 0, none⟩) (n + k) (grownCap w (n + k) old e)) (n + k) (xs ++ news) m' ∧
      Has (w.drew.alloc (.cells (xs.toArray ++ news.toArray ++ Builtin.zeroCells z.cells (grownCap w (n + k) old e - (n + k))) e)) (m' + F) := by
    intro old ho
    have hge := grownCap_ge w (n + k) old e
    have hcm : grownCap w (n + k) old e ≤ maxLen := grownCap_le_maxLen w (n + k) old e h63
    refine ⟨blk w.heap.size (xs.toArray ++ news.toArray ++ Builtin.zeroCells z.cells (grownCap w (n + k) old e - (n + k))) e, ⟨hlen, .inr ⟨_, 0, _, _, rfl, rfl, hge, hcm, ?_, ?_⟩⟩, hHF.drew.alloc _⟩
    · simp only [Array.size_append, List.size_toArray, size_zeroCells, hzs, hown.1, hl, ← Nat.add_mul, Nat.zero_add]
      apply Nat.mul_le_mul_right
      omega
    · intro j hj
      have hj' : j < xs.length + news.length := by simpa [hlen] using (by rw [← List.length_append, hlen]; exact hj)
      rw [Nat.zero_add, Array.getElem?_append_left (by simpa using hj')]
      simp [List.getElem?_append]
  rcases hown.2 with ⟨rfl, rfl, rfl⟩ | ⟨b, off, cp, cur, rfl, rfl, hnc, hcm, hcs, hcell⟩
  · have hx : xs = [] := List.eq_nil_of_length_eq_zero (by simpa using hown.1)
    subst hx
    by_cases hk : k = 0
    · subst hk
      have hn : news = [] := List.eq_nil_of_length_eq_zero (by simpa using hl)
      subst hn
      refine ⟨.slice none 0 0, w, 0, ?_, Sl.nil e i.size, hH, Ext.refl w⟩
      cases ao with
      | none => exact run_append_same w t ty e i ht hi c none rfl
      | some a => simp [Builtin.append_, run_underlying ht, sizeOf, typeInfo, hi, Builtin.lenOf, Builtin.firstCells, loadCells, loadCellsFrom]
    · cases ao with
      | none => exact absurd (hnone rfl) hk
      | some a =>
        have hr := run_append_nil (P := P) w t ty e i z ht hi hz a k c news hl (hnews a rfl) (by omega) (by omega) (by have hb := hbytes; simp only [Nat.zero_add] at hb; omega)
        obtain ⟨m', g1, g2⟩ := grown 0 (by omega)
        simp only [Nat.zero_add, List.nil_append, Array.empty_append] at g1 g2 ⊢
        exact ⟨_, _, m', hr, g1, g2, ⟨rfl, rfl, rfl, by simp⟩⟩
  · by_cases hroom : n + k ≤ cp
    · have hfit : off + n * i.size + news.length ≤ cur.size := by
        have h := Nat.mul_le_mul_right i.size hroom
        rw [Nat.add_mul] at h
        rw [hl]; omega
      have hr := run_append_room_at (P := P) w t ty e i ht hi b off n cp cur hH.row ao k c news hl hnone hnews h1 hroom hfit
      refine ⟨_, _, _, hr, ⟨hlen, .inr ⟨b, off, cp, _, rfl, rfl, hroom, hcm, ?_, ?_⟩⟩, hH.setRow _, Ext.setRow _ _ _⟩
      · simp only [List.size_toArray, List.length_append, List.length_take, List.length_drop, Array.length_toList]
        omega
      · intro j hj
        have hj2 : j < xs.length + news.length := by rw [← List.length_append, hlen]; exact hj
        have hN := hown.1
        have hT : (cur.toList.take (off + n * i.size)).length = off + xs.length := by rw [List.length_take, Array.length_toList]; omega
        simp only [List.getElem?_toArray, List.append_assoc]
        rw [List.getElem?_append, hT, List.getElem?_append (l₁ := xs)]
        by_cases hjx : j < xs.length
        · rw [if_pos (by omega), if_pos hjx, List.getElem?_take_of_lt (by omega)]
          simpa using hcell j (by omega)
        · rw [if_neg (by omega), if_neg hjx, List.getElem?_append_left (by omega)]
          congr 1
          omega
    · have holds : ∀ j u, xs[j]? = some u → w.cell? ((⟨b, off, none⟩ : Addr).add j) = some u := hown.cells hH _ rfl
      cases ao with
      | none => exact absurd (hnone rfl) (by omega)
      | some a =>
        have hr := run_append_grow (P := P) w t ty e i z ht hi hz ⟨b, off, none⟩ n cp xs hown.1 holds a k c news hl (hnews a rfl) (by omega) (by omega) (growslice_fits (by omega) hbytes)
        obtain ⟨m', g1, g2⟩ := grown cp (by omega)
        exact ⟨_, _, m', hr, g1, g2, ⟨rfl, rfl, rfl, by simp⟩⟩
end

theorem arr_ne {cs : Array Value} {i j : Nat} {v x : Value} (h : cs[j]? = some v) (hij : i ≠ j) : (cs.setIfInBounds i x)[j]? = some v := by rw [Array.getElem?_setIfInBounds_ne hij]; exact h
theorem arr_eq {cs : Array Value} {i : Nat} {x : Value} (h : i < cs.size) : (cs.setIfInBounds i x)[i]? = some x := Array.getElem?_setIfInBounds_self_of_lt h
theorem arr_lt {cs : Array Value} {i : Nat} {v : Value} (h : cs[i]? = some v) : i < cs.size := (Array.getElem?_eq_some_iff.1 h).1
theorem Has.at_ {w : World} {F : MS} {p : Nat} {cs : Array Value} {e : TypeId} (h : Has w (blk p cs e + F)) {i : Nat} {v : Value} (hv : cs[i]? = some v) : w.cell? ⟨p, i, none⟩ = some v := (h.cell i).trans hv

/-! ### The operations, as the walk meets them -/
section
variable {P : Program} {w : World} {o : Oper} {a : Act} {K : Act → World → Prop} {Q : Exit → Act → World → Prop} {ops : Array Oper} {rest : List Oper}
theorem wp_append_sl (s x : Operand) (t : TypeId)
    (ho : o.op = .call { callee := .builtin .append, args := #[s, x], argTypes := #[t, t] })
    (e : TypeId) (z : Value) (sz bytes : Nat) (ht : P.underlying t = some (.slice e)) (hi : (P.info? e).map (fun i => (i.zero, i.size, i.bytes)) = some (some z, sz, bytes)) (hzs : z.cells.size = sz)
    (v : Value) (hs : a.eval s = v) (ao : Option Addr) (k c : Nat) (hx : a.eval x = .slice ao k c)
    (n : Nat) (xs : List Value) (m F : MS) (hown : Sl e sz v n xs m) (hH : Has w (m + F))
    (news : List Value) (hl : news.length = k * sz) (hnone : ao = none → k = 0) (hnews : ∀ a, ao = some a → ∀ j u, news[j]? = some u → w.cell? (a.add j) = some u) (h1 : ∀ u ∈ news, u.oneCell' = true)
    (h63 : n + k ≤ maxLen) (hbytes : (n + k) * bytes ≤ 140737488355328)
    (h : ∀ v' w' m', Sl e sz v' (n + k) (xs ++ news) m' → Has w' (m' + F) → Ext w w' → K (a.put o.dst v') w') : o.wp P a w K Q := by
  obtain ⟨i, hi, hz0, hz1, hz2⟩ := info_parts hi
  obtain ⟨v', w', m', hr, h2, h3, h4⟩ := run_append_sl (P := P) w t o.type e i z sz bytes ht hi hz0 hz1 hz2 hzs v n xs m F hown hH ao k c news hl hnone hnews h1 h63 hbytes
  unfold Oper.wp execOp
  simp only [ho, resolve, invoke, builtin, Sem.run_bind, Sem.run_pure, Result.andThen_ok, List.map_toArray, List.map_cons, List.map_nil, hs, hx, hr]
  exact h v' w' m' h2 h3 h4
theorem wpList_append_sl (hgd : o.guard = none) (s x : Operand) (t : TypeId)
    (ho : o.op = .call { callee := .builtin .append, args := #[s, x], argTypes := #[t, t] })
    (e : TypeId) (z : Value) (sz bytes : Nat) (ht : P.underlying t = some (.slice e)) (hi : (P.info? e).map (fun i => (i.zero, i.size, i.bytes)) = some (some z, sz, bytes)) (hzs : z.cells.size = sz)
    (v : Value) (hs : a.eval s = v) (ao : Option Addr) (k c : Nat) (hx : a.eval x = .slice ao k c)
    (n : Nat) (xs : List Value) (m F : MS) (hown : Sl e sz v n xs m) (hH : Has w (m + F))
    (news : List Value) (hl : news.length = k * sz) (hnone : ao = none → k = 0) (hnews : ∀ a, ao = some a → ∀ j u, news[j]? = some u → w.cell? (a.add j) = some u) (h1 : ∀ u ∈ news, u.oneCell' = true)
    (h63 : n + k ≤ maxLen) (hbytes : (n + k) * bytes ≤ 140737488355328)
    (h : ∀ v' w' m', Sl e sz v' (n + k) (xs ++ news) m' → Has w' (m' + F) → Ext w w' → wpList P ops Q rest (a.put o.dst v') w') : wpList P ops Q (o :: rest) a w :=
  wpList_plain hgd fun _ hK => wp_append_sl s x t ho e z sz bytes ht hi hzs v hs ao k c hx n xs m F hown hH news hl hnone hnews h1 h63 hbytes fun v' w' m' h2 h3 h4 => hK _ _ (h v' w' m' h2 h3 h4)
/-- A store of one cell into an owned block: behind it the world is a letter. -/
theorem wp_store_blk (ad x : Operand) (t : TypeId) (ho : o.op = .store t ad x) (ht : (P.info? t).map (·.size) = some 1)
    (b i : Nat) (u : Value) (ha : a.eval ad = .pointer (some ⟨b, i, none⟩)) (hx : a.eval x = u) (h1 : u.oneCell' = true)
    (cur : Array Value) (e : TypeId) (F : MS) (hH : Has w (blk b cur e + F)) (hi : i < cur.size)
    (h : ∀ w', Has w' (blk b (cur.setIfInBounds i u) e + F) → Ext w w' → K (a.put o.dst undef) w') : o.wp P a w K Q := by
  have hc : w.cell? ⟨b, i, none⟩ = some cur[i] := by rw [hH.cell]; simp [hi]
  have hf := hH.frozen i
  have hcu : u.cells = #[u] := by cases u <;> first | rfl | (simp [Value.oneCell'] at h1)
  have hrun : (storeVar t ⟨b, i, none⟩ u).run P w = .ok () (w.setCell ⟨b, i, none⟩ u) := by
    cases hq : P.info? t with
    | none => simp [hq] at ht
    | some q =>
      have hs : q.size = 1 := by simpa [hq] using ht
      simp [storeVar, sizeOf, typeInfo, hq, hcu, hs, storeCells, Addr.add, run_store P w _ u _ h1, hc, hf]
  unfold Oper.wp execOp
  simp only [ho, ha, hx, Instr.storeAt, Instr.sureAddr, Sem.run_bind, Sem.run_pure, Result.andThen_ok, hrun]
  exact h _ (hH.setCell i u) (Ext.setCell _ _ _)
theorem wpList_store_blk (hgd : o.guard = none) (ad x : Operand) (t : TypeId) (ho : o.op = .store t ad x) (ht : (P.info? t).map (·.size) = some 1)
    (b i : Nat) (u : Value) (ha : a.eval ad = .pointer (some ⟨b, i, none⟩)) (hx : a.eval x = u) (h1 : u.oneCell' = true)
    (cur : Array Value) (e : TypeId) (F : MS) (hH : Has w (blk b cur e + F)) (hi : i < cur.size)
    (h : ∀ w', Has w' (blk b (cur.setIfInBounds i u) e + F) → Ext w w' → wpList P ops Q rest (a.put o.dst undef) w') : wpList P ops Q (o :: rest) a w :=
  wpList_plain hgd fun _ hK => wp_store_blk ad x t ho ht b i u ha hx h1 cur e F hH hi fun w' h2 h3 => hK _ _ (h w' h2 h3)
/-- make([]T, n): a new full row of zeros. -/
theorem wp_make_sl (l c : Operand) (t : TypeId) (ho : o.op = Op.makeSlice t l c)
    (e : TypeId) (z : Value) (sz bytes : Nat) (ht : P.underlying t = some (.slice e)) (hi : (P.info? e).map (fun i => (i.zero, i.size, i.bytes)) = some (some z, sz, bytes))
    (kl kc : IntKind) (n : Nat) (hl : a.eval l = .int kl (n : Int)) (hc : a.eval c = .int kc (n : Int)) (hb : bytes * n ≤ 281474976710656) (hm : n ≤ maxLen) (F : MS) (hH : Has w F)
    (h : ∀ v w' m', Sl e sz v n (madeCells z.cells (n * sz)).toList m' → Has w' (m' + F) → Ext w w' → (∃ ad c, v = .slice (some ad) n c) → K (a.put o.dst v) w') : o.wp P a w K Q := by
  obtain ⟨i, hi', hz0, hz1, hz2⟩ := info_parts hi
  clear hi
  subst hz1; subst hz2
  have h63 : (n : Int) ≤ 9223372036854775807 := by simp only [maxLen] at hm; omega
  have hb' : (i.bytes : Int) * (n : Int) ≤ 281474976710656 := by
    have h : ((i.bytes * n : Nat) : Int) ≤ 281474976710656 := by omega
    rwa [Int.natCast_mul] at h
  have hr := run_make (P := P) w t e i z ht hi' hz0 kl kc n n (by omega) (Int.le_refl _) hb' h63
  simp only [Int.toNat_natCast] at hr
  unfold Oper.wp
  simp only [execOp, ho, hl, hc, hr, Sem.run_bind, Result.andThen_ok, Sem.run_pure]
  exact h _ _ _ (Sl.made w.heap.size _ hm (size_madeCells _ _)) (hH.alloc _) (Ext.alloc _ _) ⟨_, _, rfl⟩
theorem wpList_make_sl (hgd : o.guard = none) (l c : Operand) (t : TypeId) (ho : o.op = Op.makeSlice t l c)
    (e : TypeId) (z : Value) (sz bytes : Nat) (ht : P.underlying t = some (.slice e)) (hi : (P.info? e).map (fun i => (i.zero, i.size, i.bytes)) = some (some z, sz, bytes))
    (kl kc : IntKind) (n : Nat) (hl : a.eval l = .int kl (n : Int)) (hc : a.eval c = .int kc (n : Int)) (hb : bytes * n ≤ 281474976710656) (hm : n ≤ maxLen) (F : MS) (hH : Has w F)
    (h : ∀ v w' m', Sl e sz v n (madeCells z.cells (n * sz)).toList m' → Has w' (m' + F) → Ext w w' → (∃ ad c, v = .slice (some ad) n c) → wpList P ops Q rest (a.put o.dst v) w') : wpList P ops Q (o :: rest) a w :=
  wpList_plain hgd fun _ hK => wp_make_sl l c t ho e z sz bytes ht hi kl kc n hl hc hb hm F hH fun v w' m' h1 h2 h3 h4 => hK _ _ (h v w' m' h1 h2 h3 h4)
end

/-! ### Lists of things, each in some cells, each owning a claim -/
/-- The things of a list, one behind the other. -/
def RowsR {α : Type} (R : α → List Value → MS → Prop) : List α → List Value → MS → Prop
  | [], cs, m => cs = [] ∧ m = 0
  | a :: l, cs, m => ∃ c1 m1 c2 m2, R a c1 m1 ∧ RowsR R l c2 m2 ∧ cs = c1 ++ c2 ∧ m = m1 + m2
/-- A thing in one cell. -/
def El {α : Type} (S : α → Value → MS → Prop) : α → List Value → MS → Prop := fun a cs m => ∃ v, cs = [v] ∧ S a v m ∧ v.oneCell' = true
/-- A slice of things. -/
def SlR {α : Type} (e sz : Nat) (R : α → List Value → MS → Prop) (l : List α) (v : Value) (m : MS) : Prop := ∃ xs ms mr, Sl e sz v l.length xs ms ∧ RowsR R l xs mr ∧ m = ms + mr

section
variable {α : Type} {R : α → List Value → MS → Prop}
theorem RowsR.nil : RowsR R [] [] 0 := ⟨rfl, rfl⟩
theorem RowsR.append : ∀ {l l' : List α} {cs cs' : List Value} {m m' : MS}, RowsR R l cs m → RowsR R l' cs' m' → RowsR R (l ++ l') (cs ++ cs') (m + m')
  | [], l', cs, cs', m, m', h, h' => by
    obtain ⟨rfl, rfl⟩ := h
    simpa [MS.zero_add] using h'
  | a :: l, l', cs, cs', m, m', h, h' => by
    obtain ⟨c1, m1, c2, m2, h1, h2, rfl, rfl⟩ := h
    exact ⟨c1, m1, c2 ++ cs', m2 + m', h1, h2.append h', by simp, by ac_rfl⟩
theorem RowsR.one {a : α} {cs : List Value} {m : MS} (h : R a cs m) : RowsR R [a] cs m := ⟨cs, m, [], 0, h, ⟨rfl, rfl⟩, by simp, by rw [MS.add_zero]⟩
theorem RowsR.length {sz : Nat} (hsz : ∀ a cs m, R a cs m → cs.length = sz) : ∀ {l : List α} {cs : List Value} {m : MS}, RowsR R l cs m → cs.length = l.length * sz
  | [], cs, m, h => by obtain ⟨rfl, _⟩ := h; simp
  | a :: l, cs, m, h => by
    obtain ⟨c1, m1, c2, m2, h1, h2, rfl, rfl⟩ := h
    rw [List.length_append, hsz _ _ _ h1, h2.length hsz, List.length_cons, Nat.succ_mul, Nat.add_comm]
theorem RowsR.mono {R' : α → List Value → MS → Prop} (hR : ∀ a cs m, R a cs m → R' a cs m) : ∀ {l : List α} {cs : List Value} {m : MS}, RowsR R l cs m → RowsR R' l cs m
  | [], _, _, h => h
  | _ :: _, _, _, h => by
    obtain ⟨c1, m1, c2, m2, h1, h2, rfl, rfl⟩ := h
    exact ⟨c1, m1, c2, m2, hR _ _ _ h1, h2.mono hR, rfl, rfl⟩
/-- One thing taken out, and put back turned. -/
theorem RowsR.take' {sz : Nat} (hsz : ∀ a cs m, R a cs m → cs.length = sz) : ∀ {l : List α} {cs : List Value} {m : MS} {i : Nat} (h : RowsR R l cs m) (hi : i < l.length),
    ∃ c m1 m2, R (l[i]'hi) c m1 ∧ m = m1 + m2 ∧ (∀ j, j < sz → cs[i * sz + j]? = c[j]?) ∧
      ∀ (R' : α → List Value → MS → Prop), (∀ a cs m, R a cs m → R' a cs m) → (∀ a cs m, R' a cs m → cs.length = sz) → ∀ a' c' m', R' a' c' m' → ∃ cs', RowsR R' (l.set i a') cs' (m' + m2) ∧ cs'.length = cs.length ∧ (∀ j, j < sz → cs'[i * sz + j]? = c'[j]?) ∧ (∀ k, (k < i * sz ∨ i * sz + sz ≤ k) → cs'[k]? = cs[k]?)
  | a :: l, cs, m, 0, h, hi => by
    obtain ⟨c1, m1, c2, m2, h1, h2, rfl, rfl⟩ := h
    have hl1 := hsz _ _ _ h1
    refine ⟨c1, m1, m2, h1, rfl, fun j hj => ?_, fun R' hR hsz' a' c' m' h' => ⟨c' ++ c2, ⟨c', m', c2, m2, h', h2.mono hR, rfl, rfl⟩, ?_, fun j hj => ?_, fun k hk => ?_⟩⟩
    · rw [Nat.zero_mul, Nat.zero_add, List.getElem?_append_left (by omega)]
    · have := hsz' _ _ _ h'; simp [this, hl1]
    · have := hsz' _ _ _ h'
      rw [Nat.zero_mul, Nat.zero_add, List.getElem?_append_left (by omega)]
    · have := hsz' _ _ _ h'
      rw [List.getElem?_append_right (by omega), List.getElem?_append_right (by omega), this, hl1]
  | a :: l, cs, m, i + 1, h, hi => by
    obtain ⟨c1, m1, c2, m2, h1, h2, rfl, rfl⟩ := h
    have hl1 := hsz _ _ _ h1
    obtain ⟨c, m3, m4, g1, rfl, g2, g3⟩ := RowsR.take' (i := i) hsz h2 (by simpa using hi)
    have e : ∀ j, (i + 1) * sz + j = c1.length + (i * sz + j) := fun j => by rw [hl1, Nat.succ_mul]; omega
    refine ⟨c, m3, m1 + m4, by simpa using g1, by ac_rfl, fun j hj => ?_, fun R' hR hsz' a' c' m' h' => ?_⟩
    · rw [e, List.getElem?_append_right (by omega)]
      simpa using g2 j hj
    · obtain ⟨cs', k1, k2, k3, k4⟩ := g3 R' hR hsz' a' c' m' h'
      refine ⟨c1 ++ cs', ⟨c1, m1, cs', m' + m4, hR _ _ _ h1, k1, rfl, by ac_rfl⟩, by simp [k2], fun j hj => ?_, fun k hk => ?_⟩
      · rw [e, List.getElem?_append_right (by omega)]
        simpa using k3 j hj
      · have es : (i + 1) * sz = i * sz + sz := Nat.succ_mul i sz
        by_cases hkc : k < c1.length
        · rw [List.getElem?_append_left hkc, List.getElem?_append_left hkc]
        · rw [List.getElem?_append_right (by omega), List.getElem?_append_right (by omega)]
          exact k4 _ (by omega)
theorem RowsR.oneCell (hR : ∀ a cs m, R a cs m → ∀ u ∈ cs, u.oneCell' = true) : ∀ {l : List α} {cs : List Value} {m : MS}, RowsR R l cs m → ∀ u ∈ cs, u.oneCell' = true
  | [], _, _, h => by obtain ⟨rfl, _⟩ := h; simp
  | _ :: _, _, _, h => by
    obtain ⟨c1, m1, c2, m2, h1, h2, rfl, rfl⟩ := h
    intro u hu
    rcases List.mem_append.1 hu with hu | hu
    · exact hR _ _ _ h1 u hu
    · exact h2.oneCell hR u hu
theorem SlR.of {e sz : Nat} {l : List α} {v : Value} {xs : List Value} {ms mr : MS} (h : Sl e sz v l.length xs ms) (hr : RowsR R l xs mr) : SlR e sz R l v (ms + mr) := ⟨xs, ms, mr, h, hr, rfl⟩
theorem SlR.form {e sz : Nat} {l : List α} {v : Value} {m : MS} (h : SlR e sz R l v m) : ∃ A c, v = .slice A l.length c ∧ (A = none → l.length = 0 ∧ c = 0) ∧ l.length ≤ c ∧ c ≤ maxLen := by
  obtain ⟨xs, ms, mr, h1, _, _⟩ := h
  exact h1.form
/-- One thing of a slice: where it lies, and how it is put back turned. -/
theorem SlR.take' {e sz : Nat} (hsz : ∀ a cs m, R a cs m → cs.length = sz) {l : List α} {v : Value} {m : MS} (h : SlR e sz R l v m) {i : Nat} (hi : i < l.length) :
    ∃ b off c cur ci m1 m2, v = .slice (some ⟨b, off, none⟩) l.length c ∧ m = blk b cur e + (m1 + m2) ∧ R (l[i]'hi) ci m1 ∧ (∀ j, j < sz → cur[off + i * sz + j]? = ci[j]?) ∧
      ∀ (R' : α → List Value → MS → Prop), (∀ a cs m, R a cs m → R' a cs m) → (∀ a cs m, R' a cs m → cs.length = sz) → ∀ a' c' m' (cur' : Array Value), R' a' c' m' → cur'.size = cur.size → (∀ k, (k < off + i * sz ∨ off + i * sz + sz ≤ k) → cur'[k]? = cur[k]?) → (∀ j, j < sz → cur'[off + i * sz + j]? = c'[j]?) →
        SlR e sz R' (l.set i a') v (blk b cur' e + (m' + m2)) := by
  obtain ⟨xs, ms, mr, h1, h2, rfl⟩ := h
  obtain ⟨b, off, c, cur, rfl, rfl, hnc, hcell, hput⟩ := h1.at_ (by omega)
  obtain ⟨ci, m1, m2, g1, rfl, g2, g3⟩ := h2.take' hsz hi
  have hle : i * sz + sz ≤ l.length * sz := by rw [← Nat.succ_mul]; exact Nat.mul_le_mul_right _ hi
  refine ⟨b, off, c, cur, ci, m1, m2, rfl, rfl, g1, fun j hj => ?_, fun R' hR hsz' a' c' m' cur' h' hs hk hj => ?_⟩
  · rw [Nat.add_assoc, hcell _ (by omega)]; exact g2 j hj
  · obtain ⟨cs', k1, k2, k3, k4⟩ := g3 R' hR hsz' a' c' m' h'
    refine ⟨cs', blk b cur' e, m' + m2, ?_, k1, rfl⟩
    have := hput cur' cs' hs k2 (fun j hjn => by
      by_cases hin : i * sz ≤ j ∧ j < i * sz + sz
      · obtain ⟨t, rfl⟩ : ∃ t, j = i * sz + t := ⟨j - i * sz, by omega⟩
        rw [k3 t (by omega), ← hj t (by omega), Nat.add_assoc]
      · rw [k4 j (by omega), hk _ (by omega)]
        exact hcell j hjn)
    simpa using this
theorem SlR.take {e sz : Nat} (hsz : ∀ a cs m, R a cs m → cs.length = sz) {l : List α} {v : Value} {m : MS} (h : SlR e sz R l v m) {i : Nat} (hi : i < l.length) :
    ∃ b off c cur ci m1 m2, v = .slice (some ⟨b, off, none⟩) l.length c ∧ m = blk b cur e + (m1 + m2) ∧ R (l[i]'hi) ci m1 ∧ (∀ j, j < sz → cur[off + i * sz + j]? = ci[j]?) ∧
      ∀ a' c' m' (cur' : Array Value), R a' c' m' → cur'.size = cur.size → (∀ k, (k < off + i * sz ∨ off + i * sz + sz ≤ k) → cur'[k]? = cur[k]?) → (∀ j, j < sz → cur'[off + i * sz + j]? = c'[j]?) →
        SlR e sz R (l.set i a') v (blk b cur' e + (m' + m2)) := by
  obtain ⟨b, off, c, cur, ci, m1, m2, h1, h2, h3, h4, h5⟩ := h.take' hsz hi
  exact ⟨b, off, c, cur, ci, m1, m2, h1, h2, h3, h4, h5 R (fun _ _ _ h => h) hsz⟩
theorem El.len {S : α → Value → MS → Prop} : ∀ a cs m, El S a cs m → cs.length = 1 := fun a cs m ⟨v, h, _⟩ => by simp [h]
theorem El.one {S : α → Value → MS → Prop} : ∀ a cs m, El S a cs m → ∀ u ∈ cs, u.oneCell' = true := fun a cs m ⟨v, h, _, h1⟩ u hu => by
  subst h
  simp at hu
  subst hu
  exact h1
end
end Go.Proofs.YtcdhimnmbpllgaaDoor
