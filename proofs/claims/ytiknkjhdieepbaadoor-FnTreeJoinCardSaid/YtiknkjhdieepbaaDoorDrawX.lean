/-
  A tree and a pattern are drawn.
-/
import Derived.Test.YtiknkjhdieepbaaDoorGH
import Derived.Test.YtiknkjhdieepbaaDoorDrawGl
namespace Go.Proofs.YtiknkjhdieepbaaDoor
open Go.RowKit
set_option linter.unusedVariables false
set_option linter.unusedSimpArgs false
attribute [local go_sem] mkB_size mkB_extract mkB_get mkB_append mkB_append_raw raw_append_mkB mkB_toList

def DTreeG (w : World) (e : Ending) (w' : World) : Prop := ∃ es g c s, DrT es ∧ s ∈ globsL ∧ e = .returned (.tuple #[.slice (some ⟨g, 0, none⟩) es.length c, .string (mkB s)]) ∧ OwnR w' w.heap.size g c es ∧ Below w.heap.size w w'
end Go.Proofs.YtiknkjhdieepbaaDoor
