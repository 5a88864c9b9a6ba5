/-
  A law's argument: events.
-/
import Derived.Test.YtnkgfgkgepadhaaEntry
import Derived.Test.YtnkgfgkgepadhaaNetRd
namespace Go.Proofs.Ytnkgfgkgepadhaa
open Go.ChangeShapes Go.WideShapes Go.ChangeAt Go.RowKit
set_option linter.unusedVariables false

theorem list5v {α : Type} {l : List α} (h : l.length = 5) : ∃ a b c d e, l = [a, b, c, d, e] := by
  match l, h with
  | [a, b, c, d, e], _ => exact ⟨a, b, c, d, e, rfl⟩
theorem cells22e : Try.prog.cellsOf 22 = 1 := by kernel_rfl
theorem cells68e : Try.prog.cellsOf 68 = 5 := by kernel_rfl
theorem openT_ev : OpenT RT.ev 68 := fun H enc W fuel cs x h => by
  obtain ⟨hl, hf⟩ := fieldOf Try.underlying68 h
  rw [cells68e] at hl
  obtain ⟨c0, c1, c2, c3, c4, rfl⟩ := list5v hl
  obtain ⟨n0, y0, g0⟩ := hf 0 _ rfl
  obtain ⟨n1, y1, g1⟩ := hf 1 _ rfl
  obtain ⟨n2, y2, g2⟩ := hf 2 _ rfl
  obtain ⟨n3, y3, g3⟩ := hf 3 _ rfl
  obtain ⟨n4, y4, g4⟩ := hf 4 _ rfl
  replace g0 : DataW.trod enc Try.prog W 0 (fun _ => true) true n0 3 (([c0, c1, c2, c3, c4].drop 0).take (Try.prog.cellsOf 3)) = some y0 := g0
  rw [cells3] at g0
  replace g1 : DataW.trod enc Try.prog W 0 (fun _ => true) true n1 3 (([c0, c1, c2, c3, c4].drop 1).take (Try.prog.cellsOf 3)) = some y1 := g1
  rw [cells3] at g1
  replace g2 : DataW.trod enc Try.prog W 0 (fun _ => true) true n2 3 (([c0, c1, c2, c3, c4].drop 2).take (Try.prog.cellsOf 3)) = some y2 := g2
  rw [cells3] at g2
  replace g3 : DataW.trod enc Try.prog W 0 (fun _ => true) true n3 3 (([c0, c1, c2, c3, c4].drop 3).take (Try.prog.cellsOf 3)) = some y3 := g3
  rw [cells3] at g3
  replace g4 : DataW.trod enc Try.prog W 0 (fun _ => true) true n4 22 (([c0, c1, c2, c3, c4].drop 4).take (Try.prog.cellsOf 22)) = some y4 := g4
  rw [cells22e] at g4
  obtain ⟨z0, rfl, _⟩ := intOfField Try.underlying3 g0
  obtain ⟨z1, rfl, _⟩ := intOfField Try.underlying3 g1
  obtain ⟨z2, rfl, _⟩ := intOfField Try.underlying3 g2
  obtain ⟨z3, rfl, _⟩ := intOfField Try.underlying3 g3
  obtain ⟨l, v, hv, hr⟩ := openT_ints H enc W n4 _ _ g4
  have e : c4 = v := by simpa using hv
  subst e
  exact ⟨⟨z0, z1, z2, z3, l⟩, c4, rfl, hr⟩
theorem openT_evs : OpenT (RT.sl RT.ev) 32 := OpenT.sl Try.underlying32 cells68e (by decide) openT_ev
end Go.Proofs.Ytnkgfgkgepadhaa
