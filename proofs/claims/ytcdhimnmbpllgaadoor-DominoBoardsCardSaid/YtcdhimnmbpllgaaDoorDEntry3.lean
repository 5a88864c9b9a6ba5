/-
  A byte as an argument.
-/
import Derived.Test.YtcdhimnmbpllgaaDoorDEntry
import Derived.WideShapes
namespace Go.Proofs.YtcdhimnmbpllgaaDoor
open Go.WideShapes
set_option linter.unusedVariables false
set_option maxRecDepth 100000

theorem u8_arg {H : Type} {enc : TypeId × Value → H} {W : World} {r : Reach} {base : Nat} {v : Value} {d : DataW H} {p : List MemPlace}
    (hv : Value.okWide Tryd.prog W r base 5 v) (h : DataW.Trod enc Tryd.prog W 0 (fun _ => true) true 5 v d p) : ∃ n : Int, v = .int .u8 n ∧ (0 ≤ n ∧ n ≤ 255) := by
  obtain ⟨n, rfl⟩ := okWide_int Tryd.underlying5 hv
  refine ⟨n, rfl, ?_⟩
  simp [Value.okWide, Tryd.underlying5, Cell.okWide, Cell.ok] at hv
  have h1 : IntKind.u8.min ≤ n ∧ n ≤ IntKind.u8.max := hv
  have h2 : IntKind.u8.min = 0 := by decide
  have h3 : IntKind.u8.max = 255 := by decide
  omega
end Go.Proofs.YtcdhimnmbpllgaaDoor
