/-
  The library's contracts that the kit's shelf holds, at this program.
-/
import Derived.Shelf.Lay
import Derived.Shelf.LaySoft
import Derived.Shelf.Strings.AsciiSet
import Derived.Shelf.Strings.Builder1
import Derived.Shelf.Strings.Builder2
import Derived.Test.YteibbnmlmbhkpaaDoorPW1
namespace Go.Proofs.YteibbnmlmbhkpaaDoor
open Go.RowKit Go.Shelf


shelf_lay Lays.n227 Nm 227 at Tryd as lays227
theorem fn84 : lays227_ren.f 227 = 84 := rfl
#check @Any.strings_makeASCIISet
end Go.Proofs.YteibbnmlmbhkpaaDoor
