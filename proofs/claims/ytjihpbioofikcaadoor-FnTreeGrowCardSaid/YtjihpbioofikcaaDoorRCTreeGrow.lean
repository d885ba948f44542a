/-
  The closed facts of the row TreeGrow.
-/
import Derived.SevenTiedAt
import Derived.Test.YtjihpbioofikcaaDoorFactA
import Derived.Test.YtjihpbioofikcaaDoorFactB
import Derived.Test.YtjihpbioofikcaaDoorFactC
namespace Go.Proofs.YtjihpbioofikcaaDoor.fnTreeGrow
open Go
set_option linter.unusedVariables false

theorem closed : joinedFacts Tryd.prog 12 Tryd.f12 Rows.fnTreeGrowSpec Rows.fnTreeGrowRow = true := by
  unfold joinedFacts
  rw [factA, factB, factC]
  kernel_rfl
theorem goes : false = Rows.fnTreeGrowRow.goesBy Tryd.prog := by kernel_rfl
end Go.Proofs.YtjihpbioofikcaaDoor.fnTreeGrow
