/-
  The closed facts of the row TreeDrop.
-/
import Derived.SevenTiedAt
import Derived.Test.YtjihpbioofikcaaDoorFactA
import Derived.Test.YtjihpbioofikcaaDoorFactB
import Derived.Test.YtjihpbioofikcaaDoorFactC
namespace Go.Proofs.YtjihpbioofikcaaDoor.fnTreeDrop
open Go
set_option linter.unusedVariables false

theorem closed : joinedFacts Tryd.prog 8 Tryd.f8 Rows.fnTreeDropSpec Rows.fnTreeDropRow = true := by
  unfold joinedFacts
  rw [factA, factB, factC]
  kernel_rfl
theorem goes : false = Rows.fnTreeDropRow.goesBy Tryd.prog := by kernel_rfl
end Go.Proofs.YtjihpbioofikcaaDoor.fnTreeDrop
