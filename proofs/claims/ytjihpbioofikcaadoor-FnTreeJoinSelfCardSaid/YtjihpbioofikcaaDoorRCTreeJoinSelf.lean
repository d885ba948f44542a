/-
  The closed facts of the row TreeJoinSelf.
-/
import Derived.SevenTiedAt
import Derived.Test.YtjihpbioofikcaaDoorFactA
import Derived.Test.YtjihpbioofikcaaDoorFactB
import Derived.Test.YtjihpbioofikcaaDoorFactC
namespace Go.Proofs.YtjihpbioofikcaaDoor.fnTreeJoinSelf
open Go
set_option linter.unusedVariables false

theorem closed : joinedFacts Tryd.prog 15 Tryd.f15 Rows.fnTreeJoinSelfSpec Rows.fnTreeJoinSelfRow = true := by
  unfold joinedFacts
  rw [factA, factB, factC]
  kernel_rfl
theorem goes : false = Rows.fnTreeJoinSelfRow.goesBy Tryd.prog := by kernel_rfl
end Go.Proofs.YtjihpbioofikcaaDoor.fnTreeJoinSelf
