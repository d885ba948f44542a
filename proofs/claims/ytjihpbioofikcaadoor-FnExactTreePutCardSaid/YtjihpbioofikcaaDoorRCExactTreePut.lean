/-
  The closed facts of the row ExactTreePut.
-/
import Derived.SevenTiedAt
import Derived.Test.YtjihpbioofikcaaDoorFactA
import Derived.Test.YtjihpbioofikcaaDoorFactB
import Derived.Test.YtjihpbioofikcaaDoorFactC
namespace Go.Proofs.YtjihpbioofikcaaDoor.fnExactTreePut
open Go
set_option linter.unusedVariables false

theorem closed : joinedFacts Tryd.prog 3 Tryd.f3 Rows.fnExactTreePutSpec Rows.fnExactTreePutRow = true := by
  unfold joinedFacts
  rw [factA, factB, factC]
  kernel_rfl
theorem goes : false = Rows.fnExactTreePutRow.goesBy Tryd.prog := by kernel_rfl
end Go.Proofs.YtjihpbioofikcaaDoor.fnExactTreePut
