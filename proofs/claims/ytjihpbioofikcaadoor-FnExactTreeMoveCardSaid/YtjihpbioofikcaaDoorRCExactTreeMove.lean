/-
  The closed facts of the row ExactTreeMove.
-/
import Derived.SevenTiedAt
import Derived.Test.YtjihpbioofikcaaDoorFactA
import Derived.Test.YtjihpbioofikcaaDoorFactB
import Derived.Test.YtjihpbioofikcaaDoorFactC
namespace Go.Proofs.YtjihpbioofikcaaDoor.fnExactTreeMove
open Go
set_option linter.unusedVariables false

theorem closed : joinedFacts Tryd.prog 5 Tryd.f5 Rows.fnExactTreeMoveSpec Rows.fnExactTreeMoveRow = true := by
  unfold joinedFacts
  rw [factA, factB, factC]
  kernel_rfl
theorem goes : false = Rows.fnExactTreeMoveRow.goesBy Tryd.prog := by kernel_rfl
end Go.Proofs.YtjihpbioofikcaaDoor.fnExactTreeMove
