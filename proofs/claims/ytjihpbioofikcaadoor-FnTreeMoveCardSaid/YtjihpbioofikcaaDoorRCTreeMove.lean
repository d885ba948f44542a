/-
  The closed facts of the row TreeMove.
-/
import Derived.SevenTiedAt
import Derived.Test.YtjihpbioofikcaaDoorFactA
import Derived.Test.YtjihpbioofikcaaDoorFactB
import Derived.Test.YtjihpbioofikcaaDoorFactC
namespace Go.Proofs.YtjihpbioofikcaaDoor.fnTreeMove
open Go
set_option linter.unusedVariables false

theorem closed : joinedFacts Tryd.prog 14 Tryd.f14 Rows.fnTreeMoveSpec Rows.fnTreeMoveRow = true := by
  unfold joinedFacts
  rw [factA, factB, factC]
  kernel_rfl
theorem goes : false = Rows.fnTreeMoveRow.goesBy Tryd.prog := by kernel_rfl
end Go.Proofs.YtjihpbioofikcaaDoor.fnTreeMove
