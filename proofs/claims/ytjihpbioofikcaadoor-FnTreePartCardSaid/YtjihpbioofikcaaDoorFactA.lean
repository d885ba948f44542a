/-
  A closed fact of the program alone, for the rows of a great seat.
-/
import Derived.Test.YtjihpbioofikcaaDoorRows
import Derived.JoinedOf
import Derived.KernelRfl
namespace Go.Proofs.YtjihpbioofikcaaDoor
open Go
theorem factA : Tryd.prog.mayEnter = true := by kernel_rfl
end Go.Proofs.YtjihpbioofikcaaDoor
