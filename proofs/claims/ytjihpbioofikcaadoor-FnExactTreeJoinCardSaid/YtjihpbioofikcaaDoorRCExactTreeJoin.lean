/-
  The closed facts of the row ExactTreeJoin.
-/
import Derived.SevenTiedAt
import Derived.Test.YtjihpbioofikcaaDoorFactA
import Derived.Test.YtjihpbioofikcaaDoorFactB
import Derived.Test.YtjihpbioofikcaaDoorFactC
namespace Go.Proofs.YtjihpbioofikcaaDoor.fnExactTreeJoin
open Go
set_option linter.unusedVariables false

theorem closed : joinedFacts Tryd.prog 4 Tryd.f4 Rows.fnExactTreeJoinSpec Rows.fnExactTreeJoinRow = true := by
  unfold joinedFacts
  rw [factA, factB, factC]
  kernel_rfl
theorem goes : false = Rows.fnExactTreeJoinRow.goesBy Tryd.prog := by kernel_rfl
end Go.Proofs.YtjihpbioofikcaaDoor.fnExactTreeJoin
