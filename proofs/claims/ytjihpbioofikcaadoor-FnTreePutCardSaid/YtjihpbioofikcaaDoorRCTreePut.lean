/-
  The closed facts of the row TreePut.
-/
import Derived.SevenTiedAt
import Derived.Test.YtjihpbioofikcaaDoorFactA
import Derived.Test.YtjihpbioofikcaaDoorFactB
import Derived.Test.YtjihpbioofikcaaDoorFactC
namespace Go.Proofs.YtjihpbioofikcaaDoor.fnTreePut
open Go
set_option linter.unusedVariables false

theorem closed : joinedFacts Tryd.prog 9 Tryd.f9 Rows.fnTreePutSpec Rows.fnTreePutRow = true := by
  unfold joinedFacts
  rw [factA, factB, factC]
  kernel_rfl
theorem goes : false = Rows.fnTreePutRow.goesBy Tryd.prog := by kernel_rfl
end Go.Proofs.YtjihpbioofikcaaDoor.fnTreePut
