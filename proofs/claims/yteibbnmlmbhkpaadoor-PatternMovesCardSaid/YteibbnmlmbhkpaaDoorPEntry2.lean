/-
  A move as an argument.
-/
import Derived.Test.YteibbnmlmbhkpaaDoorPEntry
import Derived.Test.YteibbnmlmbhkpaaDoorLawP2
import Derived.WideShapes
namespace Go.Proofs.YteibbnmlmbhkpaaDoor
open Go.WideShapes
set_option linter.unusedVariables false
set_option maxRecDepth 100000

theorem move_arg {H : Type} {enc : TypeId × Value → H} {W : World} {r : Reach} {base : Nat} {v : Value} {d : DataW H} {p : List MemPlace}
    (hv : Value.okWide Tryd.prog W r base 41 v) (h : DataW.Trod enc Tryd.prog W 0 (fun _ => true) true 41 v d p) : ∃ m : Mv, v = m.v ∧ m.v = m.v := by
  obtain ⟨fuel, hf⟩ := h
  obtain ⟨m, hm, _⟩ := move_read hf
  obtain ⟨cs, rfl, _⟩ := okWide_struct Tryd.underlying41 hv
  refine ⟨m, ?_, rfl⟩
  have h1 : cs.toList = m.cells := hm
  have : cs = m.cells.toArray := by rw [← h1]
  rw [this]
  rfl
end Go.Proofs.YteibbnmlmbhkpaaDoor
