/-
  The closed facts of the row TreeFollow.
-/
import Derived.SevenTiedAt
import Derived.Test.YtjihpbioofikcaaDoorFactA
import Derived.Test.YtjihpbioofikcaaDoorFactB
import Derived.Test.YtjihpbioofikcaaDoorFactC
namespace Go.Proofs.YtjihpbioofikcaaDoor.fnTreeFollow
open Go
set_option linter.unusedVariables false

theorem closed : joinedFacts Tryd.prog 7 Tryd.f7 Rows.fnTreeFollowSpec Rows.fnTreeFollowRow = true := by
  unfold joinedFacts
  rw [factA, factB, factC]
  kernel_rfl
theorem goes : false = Rows.fnTreeFollowRow.goesBy Tryd.prog := by kernel_rfl
end Go.Proofs.YtjihpbioofikcaaDoor.fnTreeFollow
