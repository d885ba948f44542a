/-
  The closed facts of the row TreePart.
-/
import Derived.SevenTiedAt
import Derived.Test.YtjihpbioofikcaaDoorFactA
import Derived.Test.YtjihpbioofikcaaDoorFactB
import Derived.Test.YtjihpbioofikcaaDoorFactC
namespace Go.Proofs.YtjihpbioofikcaaDoor.fnTreePart
open Go
set_option linter.unusedVariables false

theorem closed : joinedFacts Tryd.prog 17 Tryd.f17 Rows.fnTreePartSpec Rows.fnTreePartRow = true := by
  unfold joinedFacts
  rw [factA, factB, factC]
  kernel_rfl
theorem goes : false = Rows.fnTreePartRow.goesBy Tryd.prog := by kernel_rfl
end Go.Proofs.YtjihpbioofikcaaDoor.fnTreePart
