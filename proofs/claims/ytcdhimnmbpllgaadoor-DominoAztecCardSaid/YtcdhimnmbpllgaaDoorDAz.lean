/-
  The diamonds: plain: both counts.
-/
import Derived.Test.YtcdhimnmbpllgaaDoorDAlive
namespace Go.Proofs.YtcdhimnmbpllgaaDoor
set_option linter.unusedVariables false
set_option maxRecDepth 100000

def dots : ByteArray := ⟨#[46, 46, 46, 46, 46, 46, 46, 46]⟩
def hashes : ByteArray := ⟨#[35, 35, 35, 35, 35, 35, 35, 35]⟩
def azK (n y : Nat) : Nat := min (y + 1) (2 * n - y)
def azRow (n k : Nat) : ByteArray := dots.extract 0 (n - k) ++ hashes.extract 0 (2 * k) ++ dots.extract 0 (n - k)
def az (n : Nat) : List ByteArray := (List.range (2 * n)).map fun y => azRow n (azK n y)
theorem azReg : ((List.range 4).all fun i => isReg (az (i + 1))) = true := by kernel_rfl
theorem azKas : ((List.range 4).all fun i => (kasV (az (i + 1))).natAbs == 2 ^ ((i + 1) * (i + 2) / 2)) = true := by kernel_rfl
theorem azCnt : ((List.range 4).all fun i => cntV (az (i + 1)) == 2 ^ ((i + 1) * (i + 2) / 2)) = true := by kernel_rfl
end Go.Proofs.YtcdhimnmbpllgaaDoor
