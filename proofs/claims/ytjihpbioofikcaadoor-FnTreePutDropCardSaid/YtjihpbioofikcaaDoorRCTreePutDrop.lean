/-
  The closed facts of the row TreePutDrop.
-/
import Derived.SevenTiedAt
import Derived.Test.YtjihpbioofikcaaDoorFactA
import Derived.Test.YtjihpbioofikcaaDoorFactB
import Derived.Test.YtjihpbioofikcaaDoorFactC
namespace Go.Proofs.YtjihpbioofikcaaDoor.fnTreePutDrop
open Go
set_option linter.unusedVariables false

theorem closed : joinedFacts Tryd.prog 10 Tryd.f10 Rows.fnTreePutDropSpec Rows.fnTreePutDropRow = true := by
  unfold joinedFacts
  rw [factA, factB, factC]
  kernel_rfl
theorem goes : false = Rows.fnTreePutDropRow.goesBy Tryd.prog := by kernel_rfl
end Go.Proofs.YtjihpbioofikcaaDoor.fnTreePutDrop
