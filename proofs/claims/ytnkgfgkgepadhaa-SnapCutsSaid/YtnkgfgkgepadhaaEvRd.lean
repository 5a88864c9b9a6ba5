/-
  Events as they are read; a list of truths that is written.
-/
import Derived.Test.YtnkgfgkgepadhaaSame
namespace Go.Proofs.Ytnkgfgkgepadhaa
open Go.RowKit
set_option linter.unusedVariables false
set_option linter.unusedSimpArgs false
set_option maxHeartbeats 4000000
set_option maxRecDepth 100000

def dfEv : Ev := ⟨0, 0, 0, 0, []⟩
theorem row64c : RowTy Try.prog 64 69 (.slice none 0 0) 1 24 := ⟨Try.underlying64, by kernel_rfl, rfl⟩
/-- An event as it is read. -/
structure EvAt (F : MS) (b o : Nat) (l : List Ev) (j : Nat) : Prop where
  c0 : F.at b (o + j * 5) (.int .i64 (l.getD j dfEv).station)
  c1 : F.at b (o + j * 5 + 1) (.int .i64 (l.getD j dfEv).what)
  c2 : F.at b (o + j * 5 + 2) (.int .i64 (l.getD j dfEv).other)
theorem evAt {F : MS} {l : List Ev} {A : Option Addr} {n c : Nat} (h : RdS F RT.ev l (.slice A n c)) : ∃ b o, (0 < l.length → A = some ⟨b, o, none⟩) ∧ ∀ j, j < l.length → EvAt F b o l j := by
  by_cases h0 : 0 < l.length
  · obtain ⟨b, o, _, _, hA, _⟩ := h.getEv (List.getElem?_eq_getElem h0)
    refine ⟨b, o, fun _ => hA, fun j hj => ?_⟩
    obtain ⟨b', o', _, _, hA', e0, e1, e2, _⟩ := h.getEv (get_getD (l := l) (j := j) dfEv hj)
    rw [hA] at hA'
    simp only [Option.some.injEq, Addr.mk.injEq] at hA'
    obtain ⟨rfl, rfl, _⟩ := hA'
    exact ⟨e0, e1, e2⟩
  · exact ⟨0, 0, fun h => absurd h h0, fun j hj => by omega⟩

theorem bools_set {l : List Bool} {v : Value} {m : MS} (h : Bools l v m) {j : Nat} (hj : j < l.length) :
    ∃ b o c cur, v = .slice (some ⟨b, o, none⟩) l.length c ∧ m = blk b cur 4 ∧ o + j < cur.size ∧ cur[o + j]? = some (.bool (l.getD j false)) ∧ ∀ u, Bools (l.set j u) v (blk b (cur.setIfInBounds (o + j) (.bool u)) 4) := by
  obtain ⟨b, o, c, cur, rfl, rfl, _, hc, hput⟩ := (Bools.cells h).at_ (by omega)
  have hg : cur[o + j]? = some (.bool (l.getD j false)) := by rw [hc j (by omega)]; simp [List.getD, hj]
  refine ⟨b, o, c, cur, rfl, rfl, arr_lt hg, hg, fun u => Bools.of ?_⟩
  have := Sl.set_ (sz := 1) hput hc (by simp) (i := j) (by omega) (.bool u)
  rw [List.map_set, List.length_set]
  exact this
theorem bools_at {l : List Bool} {b o n c : Nat} {m : MS} (h : Bools l (.slice (some ⟨b, o, none⟩) n c) m) {j : Nat} (hj : j < l.length) :
    ∃ cur, m = blk b cur 4 ∧ o + j < cur.size ∧ cur[o + j]? = some (.bool (l.getD j false)) ∧ ∀ u, Bools (l.set j u) (.slice (some ⟨b, o, none⟩) n c) (blk b (cur.setIfInBounds (o + j) (.bool u)) 4) := by
  obtain ⟨b', o', c', cur, e, rfl, h1, h2, h3⟩ := bools_set h hj
  simp only [Value.slice.injEq, Option.some.injEq, Addr.mk.injEq] at e
  obtain ⟨⟨rfl, rfl, _⟩, rfl, rfl⟩ := e
  exact ⟨cur, rfl, h1, h2, h3⟩
theorem bools_some {l : List Bool} {A : Option Addr} {n c : Nat} {m : MS} (h : Bools l (.slice A n c) m) (hl : 0 < l.length) : ∃ b o, A = some ⟨b, o, none⟩ := by
  obtain ⟨b', o', c', cur, e, _⟩ := bools_set (j := 0) h hl
  simp only [Value.slice.injEq] at e
  exact ⟨_, _, e.1⟩


theorem ints_set {l : List Int} {v : Value} {m : MS} (h : Ints l v m) {j : Nat} (hj : j < l.length) :
    ∃ b o c cur, v = .slice (some ⟨b, o, none⟩) l.length c ∧ m = blk b cur 3 ∧ o + j < cur.size ∧ cur[o + j]? = some (.int .i64 (l.getD j 0)) ∧ ∀ u, Ints (l.set j u) v (blk b (cur.setIfInBounds (o + j) (.int .i64 u)) 3) := by
  obtain ⟨b, o, c, cur, rfl, rfl, hat⟩ := Ints.at_ h (by omega)
  exact ⟨b, o, c, cur, rfl, rfl, arr_lt (hat.get hj), hat.get hj, fun u => by have := (hat.set hj u).ints (b := b); simpa using this⟩
theorem ints_at {l : List Int} {b o n c : Nat} {m : MS} (h : Ints l (.slice (some ⟨b, o, none⟩) n c) m) {j : Nat} (hj : j < l.length) :
    ∃ cur, m = blk b cur 3 ∧ o + j < cur.size ∧ cur[o + j]? = some (.int .i64 (l.getD j 0)) ∧ ∀ u, Ints (l.set j u) (.slice (some ⟨b, o, none⟩) n c) (blk b (cur.setIfInBounds (o + j) (.int .i64 u)) 3) := by
  obtain ⟨b', o', c', cur, e, rfl, h1, h2, h3⟩ := ints_set h hj
  simp only [Value.slice.injEq, Option.some.injEq, Addr.mk.injEq] at e
  obtain ⟨⟨rfl, rfl, _⟩, rfl, rfl⟩ := e
  exact ⟨cur, rfl, h1, h2, h3⟩
theorem ints_some {l : List Int} {A : Option Addr} {n c : Nat} {m : MS} (h : Ints l (.slice A n c) m) (hl : 0 < l.length) : ∃ b o, A = some ⟨b, o, none⟩ := by
  obtain ⟨b', o', c', cur, e, _⟩ := ints_set (j := 0) h hl
  simp only [Value.slice.injEq] at e
  exact ⟨_, _, e.1⟩
end Go.Proofs.Ytnkgfgkgepadhaa
