/-
  A closed fact of the program alone, for the rows of a great seat.
-/
import Derived.Test.YtjihpbioofikcaaDoorRows
import Derived.JoinedOf
import Derived.SevenTiedAt
import Derived.KernelRfl
namespace Go.Proofs.YtjihpbioofikcaaDoor
open Go
theorem factD : Tryd.prog.mainIs = some (true, ("9df6e87659e6e686f2f6385ed3f1e0379458e2b1c31a72f13b7ee89011821430" : String).toList) := by kernel_rfl
end Go.Proofs.YtjihpbioofikcaaDoor
