/-
  Plain: the boards by evaluation.
-/
import Derived.Test.YtcdhimnmbpllgaaDoorBPlain
namespace Go.Proofs.YtcdhimnmbpllgaaDoor
open Go.RowKit
set_option linter.unusedVariables false
set_option linter.unusedSimpArgs false
set_option maxRecDepth 100000

def hash8 : ByteArray := ⟨#[35, 35, 35, 35, 35, 35, 35, 35]⟩
def bRow (W : Nat) : ByteArray := hash8.extract 0 W
def bd (W H : Nat) : List ByteArray := List.replicate H (bRow W)
def bH (W H x y : Nat) : Bool := decide (x < W) && decide (y < H)
def rmB (W H ax ay bx by' x y : Nat) : Bool := decide (x < W) && (decide (y < H) && (!(x == ax && y == ay) && !(x == bx && y == by')))
def brdD (W H : Nat) (d : Dom) : Bool :=
  decide (0 ≤ d.1) && (decide (0 ≤ d.2.1) && (decide (d.1.toNat < W) && (decide (d.2.1.toNat < H) && (decide ((if d.2.2 then d.1.toNat else d.1.toNat + 1) < W) && (decide ((if d.2.2 then d.2.1.toNat + 1 else d.2.1.toNat) < H) &&
    pF W (rmB W H d.1.toNat d.2.1.toNat (if d.2.2 then d.1.toNat else d.1.toNat + 1) (if d.2.2 then d.2.1.toNat + 1 else d.2.1.toNat)) (W * H) 0 0)))))
def brdOk (W H : Nat) : Bool :=
  if W * H % 2 == 1 then uncF W (bH W H) (W * H) 0 0 == W * H
  else pF W (bH W H) (W * H) 0 0 && (2 * (pathB W (bH W H) (W * H) 0 0).length == W * H && (pathB W (bH W H) (W * H) 0 0).all (brdD W H))
theorem brd_all : ((List.range 8).all fun w => (List.range 8).all fun h => brdOk (w + 1) (h + 1)) = true := by kernel_rfl
end Go.Proofs.YtcdhimnmbpllgaaDoor
