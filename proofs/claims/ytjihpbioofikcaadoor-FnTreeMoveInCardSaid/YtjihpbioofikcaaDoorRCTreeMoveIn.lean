/-
  The closed facts of the row TreeMoveIn.
-/
import Derived.SevenTiedAt
import Derived.Test.YtjihpbioofikcaaDoorFactA
import Derived.Test.YtjihpbioofikcaaDoorFactB
import Derived.Test.YtjihpbioofikcaaDoorFactC
namespace Go.Proofs.YtjihpbioofikcaaDoor.fnTreeMoveIn
open Go
set_option linter.unusedVariables false

theorem closed : joinedFacts Tryd.prog 13 Tryd.f13 Rows.fnTreeMoveInSpec Rows.fnTreeMoveInRow = true := by
  unfold joinedFacts
  rw [factA, factB, factC]
  kernel_rfl
theorem goes : false = Rows.fnTreeMoveInRow.goesBy Tryd.prog := by kernel_rfl
end Go.Proofs.YtjihpbioofikcaaDoor.fnTreeMoveIn
