/-
  Lists of dominoes, of cells as arguments.
-/
import Derived.Test.YtcdhimnmbpllgaaDoorDEntry
import Derived.Test.YtcdhimnmbpllgaaDoorTW2
namespace Go.Proofs.YtcdhimnmbpllgaaDoor
open Go.ChangeShapes Go.WideShapes Go.ChangeAt Go.RowKit
set_option linter.unusedVariables false
set_option maxRecDepth 100000

theorem list3 {α : Type} {l : List α} (h : l.length = 3) : ∃ a b c, l = [a, b, c] := by
  match l, h with
  | [a, b, c], _ => exact ⟨a, b, c, rfl⟩
theorem cellsOf40 : Tryd.prog.cellsOf 40 = 3 := by kernel_rfl
theorem cellsOf4 : Tryd.prog.cellsOf 4 = 1 := by kernel_rfl
theorem openT_dom : OpenT RT.dom 40 := fun H enc W sp held fuel cs x h => by
  obtain ⟨xs, n', _, _, hl, hlen, hf⟩ := DataW.trod_struct Tryd.underlying40 h
  rw [cellsOf40] at hl
  obtain ⟨c0, c1, c2, rfl⟩ := list3 hl
  obtain ⟨x0, x1, x2, rfl⟩ := list3 (l := xs) (by simpa using hlen)
  have g0 : DataW.trod enc Tryd.prog W 0 sp held n' 3 (([c0, c1, c2].drop 0).take (Tryd.prog.cellsOf 3)) = some x0 := hf 0 _ rfl
  have g1 : DataW.trod enc Tryd.prog W 0 sp held n' 3 (([c0, c1, c2].drop 1).take (Tryd.prog.cellsOf 3)) = some x1 := hf 1 _ rfl
  have g2 : DataW.trod enc Tryd.prog W 0 sp held n' 4 (([c0, c1, c2].drop 2).take (Tryd.prog.cellsOf 4)) = some x2 := hf 2 _ rfl
  rw [cells3] at g0 g1
  rw [cellsOf4] at g2
  obtain ⟨z0, e0, rfl, _⟩ := DataW.trod_int Tryd.underlying3 g0
  obtain ⟨z1, e1, rfl, _⟩ := DataW.trod_int Tryd.underlying3 g1
  obtain ⟨z2, e2, rfl, _⟩ := DataW.trod_bool Tryd.underlying4 g2
  simp at e0 e1 e2
  subst e0; subst e1; subst e2
  exact ⟨(z0, z1, z2), rfl⟩
theorem doms_arg {H : Type} {enc : TypeId × Value → H} {W : World} {A : Option Addr} {n c : Nat} {d : DataW H} {p : List MemPlace}
    (h : DataW.Trod enc Tryd.prog W 0 (fun _ => true) true 35 (.slice A n c) d p) : ∃ l, n = l.length ∧ RdS (MS.all W) RT.dom l (.slice A l.length c) := by
  obtain ⟨fuel, hf⟩ := h
  obtain ⟨l, v, hv, hl⟩ := OpenT.sl (T := RT.dom) Tryd.underlying35 (by kernel_rfl) (show 0 < RT.dom.sz by decide) openT_dom H enc W fuel _ _ hf
  have : v = .slice A n c := by simpa [Value.cells] using hv.symm
  subst this
  obtain ⟨rfl, _⟩ := hl.cells
  exact ⟨l, rfl, hl⟩
theorem openT_cl : OpenT RT.cl 66 := fun H enc W sp held fuel cs x h => by
  obtain ⟨q, h1, _⟩ := cl_read h
  exact ⟨q, h1⟩
theorem cells_arg {H : Type} {enc : TypeId × Value → H} {W : World} {A : Option Addr} {n c : Nat} {d : DataW H} {p : List MemPlace}
    (h : DataW.Trod enc Tryd.prog W 0 (fun _ => true) true 29 (.slice A n c) d p) : ∃ l, n = l.length ∧ RdS (MS.all W) RT.cl l (.slice A l.length c) := by
  obtain ⟨fuel, hf⟩ := h
  obtain ⟨l, v, hv, hl⟩ := OpenT.sl (T := RT.cl) Tryd.underlying29 (by kernel_rfl) (show 0 < RT.cl.sz by decide) openT_cl H enc W fuel _ _ hf
  have : v = .slice A n c := by simpa [Value.cells] using hv.symm
  subst this
  obtain ⟨rfl, _⟩ := hl.cells
  exact ⟨l, rfl, hl⟩
end Go.Proofs.YtcdhimnmbpllgaaDoor
