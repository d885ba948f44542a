/-
  The closed facts of the row ExactTreePart.
-/
import Derived.SevenTiedAt
import Derived.Test.YtjihpbioofikcaaDoorFactA
import Derived.Test.YtjihpbioofikcaaDoorFactB
import Derived.Test.YtjihpbioofikcaaDoorFactC
namespace Go.Proofs.YtjihpbioofikcaaDoor.fnExactTreePart
open Go
set_option linter.unusedVariables false

theorem closed : joinedFacts Tryd.prog 6 Tryd.f6 Rows.fnExactTreePartSpec Rows.fnExactTreePartRow = true := by
  unfold joinedFacts
  rw [factA, factB, factC]
  kernel_rfl
theorem goes : false = Rows.fnExactTreePartRow.goesBy Tryd.prog := by kernel_rfl
end Go.Proofs.YtjihpbioofikcaaDoor.fnExactTreePart
