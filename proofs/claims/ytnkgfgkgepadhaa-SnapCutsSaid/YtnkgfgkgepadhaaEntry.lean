/-
  A law's arguments: how they are read out of what the row says of them; and how the row is shut.
-/
import Derived.Test.YtnkgfgkgepadhaaAct
import Derived.ProofKit
import Derived.OpenShut
import Derived.ChangeOld
import Derived.Below
import Derived.Deep.Slices
namespace Go.Proofs.Ytnkgfgkgepadhaa
open Go.ChangeShapes Go.WideShapes Go.ChangeAt Go.RowKit
set_option linter.unusedVariables false

/-- Whatever the row reads at type t reads by T. -/
def OpenT {α : Type} (T : RT α) (t : TypeId) : Prop := ∀ (H : Type) (enc : TypeId × Value → H) (W : World) (fuel : Nat) (cs : List Value) (x : DataW H × List MemPlace),
  DataW.trod enc Try.prog W 0 (fun _ => true) true fuel t cs = some x → ∃ a, T.rel (MS.all W) a cs
section
variable {α : Type}
/-- Rows, one behind the other, in a block. -/
theorem rows_at {T : RT α} {F : MS} {b o : Nat} : ∀ (n : Nat), (∀ i, i < n → ∃ a cs, T.rel F a cs ∧ ∀ j u, cs[j]? = some u → F.at b (o + i * T.sz + j) u) →
    ∃ (l : List α) (xs : List Value), l.length = n ∧ RowsQ (T.rel F) l xs ∧ ∀ j u, xs[j]? = some u → F.at b (o + j) u
  | 0, _ => ⟨[], [], rfl, rfl, fun j u h => by simp at h⟩
  | n + 1, h => by
    obtain ⟨l, xs, h1, h2, h3⟩ := rows_at n fun i hi => h i (by omega)
    obtain ⟨a, cs, h4, h5⟩ := h n (by omega)
    have hx := h2.length fun a cs h => T.len F a cs h
    refine ⟨l ++ [a], xs ++ cs, by simp [h1], h2.append ⟨cs, [], h4, rfl, by simp⟩, fun j u hu => ?_⟩
    rw [List.getElem?_append] at hu
    split at hu
    · exact h3 j u hu
    · have := h5 _ u hu
      rw [hx, h1] at this
      rw [hx, h1] at *
      rwa [show o + n * T.sz + (j - n * T.sz) = o + j by omega] at this
theorem cells_at {W : World} {a : Addr} {n : Nat} {cs : List Value} (h : W.cells? 0 a n = some cs) : cs.length = n ∧ ∀ j u, cs[j]? = some u → W.cell? (a.add j) = some u := by
  obtain ⟨_, h2, h3⟩ := World.cells?_some h
  refine ⟨h2, fun j u hu => ?_⟩
  have hj := (List.getElem?_eq_some_iff.1 hu).1
  rw [h3 j (by omega), hu]
theorem OpenT.sl {T : RT α} {t e : TypeId} (ht : Try.prog.underlying t = some (.slice e)) (hc : Try.prog.cellsOf e = T.sz) (h0 : 0 < T.sz) (he : OpenT T e) : OpenT (RT.sl T) t := by
  intro H enc W fuel cs x h
  rcases Go.Deep.open_slice ht h with ⟨rfl, _⟩ | ⟨a, len, cap, m, n, D, Pl, rfl, _, hl, hm, hmm, _, hel⟩
  · exact ⟨[], _, rfl, RdS.nil _ _⟩
  · rw [if_pos rfl] at hmm
    subst hmm
    have hrow : ∀ i, i < len → ∃ b cs, T.rel (MS.all W) b cs ∧ ∀ j u, cs[j]? = some u → (MS.all W).at a.block (a.off + i * T.sz + j) u ∧ a.spot = none := fun i hi => by
      obtain ⟨cs', k1, k2⟩ := hel i (by omega)
      obtain ⟨b, hb⟩ := he H enc W n cs' _ k2
      refine ⟨b, cs', hb, fun j u hu => ?_⟩
      obtain ⟨_, k4⟩ := cells_at k1
      have k5 := k4 j u hu
      rw [hc, Addr.add_add] at k5
      -- the first cell of all says that the address is plain
      obtain ⟨cs0, q1, q2⟩ := hel 0 (by omega)
      obtain ⟨q3, q4⟩ := cells_at q1
      have hp : a.spot = none := by
        have := q4 0 _ (List.getElem?_eq_getElem (by rw [q3, hc]; exact h0))
        rw [Nat.zero_mul, Addr.add_add] at this
        simpa [Addr.add] using (all_at this).1
      obtain ⟨_, k6⟩ := all_at k5
      refine ⟨?_, hp⟩
      have e : (a.add (i * T.sz + j)).block = a.block ∧ (a.add (i * T.sz + j)).off = a.off + (i * T.sz + j) := by
        unfold Addr.add; split
        · rename_i h; rw [h]; exact ⟨rfl, rfl⟩
        · exact ⟨rfl, rfl⟩
      rw [e.1, e.2] at k6
      rwa [Nat.add_assoc]
    obtain ⟨l, xs, h1, h2, h3⟩ := rows_at (T := T) (F := MS.all W) (b := a.block) (o := a.off) len fun i hi => by
      obtain ⟨b, cs, k1, k2⟩ := hrow i hi
      exact ⟨b, cs, k1, fun j u hu => (k2 j u hu).1⟩
    refine ⟨l, _, rfl, some a, m, xs, by rw [h1], by omega, hm, fun hne => ?_, h2⟩
    have hlen := h2.length fun a cs h => T.len _ a cs h
    have hpos : 0 < len := by
      rcases Nat.eq_zero_or_pos len with h | h
      · rw [h1, h, Nat.zero_mul] at hlen
        exact absurd (List.eq_nil_of_length_eq_zero hlen) hne
      · exact h
    obtain ⟨b, cs, k1, k2⟩ := hrow 0 hpos
    have hl0 := T.len _ _ _ k1
    have hs := (k2 0 _ (List.getElem?_eq_getElem (by omega))).2
    refine ⟨a.block, a.off, ?_, h3⟩
    cases a
    simp only at hs
    subst hs
    rfl
end
theorem openT_int : OpenT RT.int 3 := fun H enc W fuel cs x h => by
  obtain ⟨n, rfl, _⟩ := DataW.trod_int Try.underlying3 h
  exact ⟨n, rfl⟩
theorem openT_ints : OpenT (RT.sl RT.int) 22 := OpenT.sl Try.underlying22 (by kernel_rfl) Nat.one_pos openT_int
/-- A field of a struct that is read. -/
theorem fieldOf {H : Type} {enc : TypeId × Value → H} {W : World} {t : TypeId} {fs : Array Field} {fuel : Nat} {cs : List Value} {x : DataW H × List MemPlace} (ht : Try.prog.underlying t = some (.struct fs))
    (h : DataW.trod enc Try.prog W 0 (fun _ => true) true fuel t cs = some x) : cs.length = Try.prog.cellsOf t ∧ ∀ (i : Nat) (f : Field), fs[i]? = some f → ∃ n y, DataW.trod enc Try.prog W 0 (fun _ => true) true n f.type ((cs.drop f.offset).take (Try.prog.cellsOf f.type)) = some y := by
  obtain ⟨xs, n, _, rfl, hl, hlen, hf⟩ := DataW.trod_struct ht h
  refine ⟨hl, fun i f hi => ?_⟩
  have hi' : i < xs.length := by rw [hlen]; exact (Array.getElem?_eq_some_iff.1 hi).1
  exact ⟨n, xs[i], by rw [hf i f hi, List.getElem?_eq_getElem hi']⟩
theorem list4 {α : Type} {l : List α} (h : l.length = 4) : ∃ a b c d, l = [a, b, c, d] := by
  match l, h with
  | [a, b, c, d], _ => exact ⟨a, b, c, d, rfl⟩
theorem cells3 : Try.prog.cellsOf 3 = 1 := by kernel_rfl
theorem cells5 : Try.prog.cellsOf 5 = 1 := by kernel_rfl
theorem cells60 : Try.prog.cellsOf 60 = 4 := by kernel_rfl
theorem intOfField {H : Type} {enc : TypeId × Value → H} {W : World} {n : Nat} {t : TypeId} {k : IntKind} {c : Value} {y : DataW H × List MemPlace} (ht : Try.prog.underlying t = some (.int k)) (h : DataW.trod enc Try.prog W 0 (fun _ => true) true n t [c] = some y) : ∃ z, c = .int k z ∧ (Lit.int k z).wf = true := by
  obtain ⟨z, h1, _, h2⟩ := DataW.trod_int ht h
  exact ⟨z, by simpa using h1, h2⟩
theorem openT_act : OpenT RT.act 60 := fun H enc W fuel cs x h => by
  obtain ⟨hl, hf⟩ := fieldOf Try.underlying60 h
  rw [cells60] at hl
  obtain ⟨c0, c1, c2, c3, rfl⟩ := list4 hl
  obtain ⟨n0, y0, g0⟩ := hf 0 _ rfl
  obtain ⟨n1, y1, g1⟩ := hf 1 _ rfl
  obtain ⟨n2, y2, g2⟩ := hf 2 _ rfl
  obtain ⟨n3, y3, g3⟩ := hf 3 _ rfl
  replace g0 : DataW.trod enc Try.prog W 0 (fun _ => true) true n0 5 (([c0, c1, c2, c3].drop 0).take (Try.prog.cellsOf 5)) = some y0 := g0
  rw [cells5] at g0
  replace g1 : DataW.trod enc Try.prog W 0 (fun _ => true) true n1 3 (([c0, c1, c2, c3].drop 1).take (Try.prog.cellsOf 3)) = some y1 := g1
  rw [cells3] at g1
  replace g2 : DataW.trod enc Try.prog W 0 (fun _ => true) true n2 3 (([c0, c1, c2, c3].drop 2).take (Try.prog.cellsOf 3)) = some y2 := g2
  rw [cells3] at g2
  replace g3 : DataW.trod enc Try.prog W 0 (fun _ => true) true n3 3 (([c0, c1, c2, c3].drop 3).take (Try.prog.cellsOf 3)) = some y3 := g3
  rw [cells3] at g3
  obtain ⟨z0, rfl, w0⟩ := intOfField Try.underlying5 g0
  obtain ⟨z1, rfl, w1⟩ := intOfField Try.underlying3 g1
  obtain ⟨z2, rfl, w2⟩ := intOfField Try.underlying3 g2
  obtain ⟨z3, rfl, w3⟩ := intOfField Try.underlying3 g3
  refine ⟨⟨z0, z1, z2, z3⟩, rfl, ?_⟩
  have := bounds_u8 w0
  exact ⟨this.1, by simp only; omega⟩
/-- A slice argument, as it is read. -/
theorem rd_arg {α : Type} {T : RT α} {t : TypeId} (ho : OpenT (RT.sl T) t) {H : Type} {enc : TypeId × Value → H} {W : World} {A : Option Addr} {n c : Nat} {d : DataW H} {p : List MemPlace}
    (h : DataW.Trod enc Try.prog W 0 (fun _ => true) true t (.slice A n c) d p) : ∃ l, RdS (MS.all W) T l (.slice A n c) := by
  obtain ⟨fuel, hf⟩ := h
  obtain ⟨l, v, hv, hl⟩ := ho H enc W fuel _ _ hf
  have : v = .slice A n c := by simpa [Value.cells] using hv.symm
  subst this
  exact ⟨l, hl⟩
theorem own : ownKnob Try.prog.godebug = none := by kernel_rfl
theorem laidOut : laidOutB Try.prog = true := by kernel_rfl
/-- What a law's walk leaves, as the row asks. -/
theorem LawPost.bel {w w' : World} {e : Ending} (h : e = .returned (.bool true) ∧ Has w' (MS.all w) ∧ Ext w w') : e = .returned (.bool true) ∧ Below w.heap.size w w' :=
  ⟨h.1, Has.below (a := 0) (by rw [MS.zero_add]; exact h.2.1) h.2.2⟩
end Go.Proofs.Ytnkgfgkgepadhaa
