/-
  The closed facts of the row TreePartRest.
-/
import Derived.SevenTiedAt
import Derived.Test.YtjihpbioofikcaaDoorFactA
import Derived.Test.YtjihpbioofikcaaDoorFactB
import Derived.Test.YtjihpbioofikcaaDoorFactC
namespace Go.Proofs.YtjihpbioofikcaaDoor.fnTreePartRest
open Go
set_option linter.unusedVariables false

theorem closed : joinedFacts Tryd.prog 18 Tryd.f18 Rows.fnTreePartRestSpec Rows.fnTreePartRestRow = true := by
  unfold joinedFacts
  rw [factA, factB, factC]
  kernel_rfl
theorem goes : false = Rows.fnTreePartRestRow.goesBy Tryd.prog := by kernel_rfl
end Go.Proofs.YtjihpbioofikcaaDoor.fnTreePartRest
