/-
  What the exact laws of tree functions share.
-/
import Derived.Test.YtiknkjhdieepbaaDoorResE
import Derived.Test.YtiknkjhdieepbaaDoorArgE
namespace Go.Proofs.YtiknkjhdieepbaaDoor
open Go.RowKit
set_option linter.unusedVariables false
set_option linter.unusedSimpArgs false
attribute [local go_sem] mkB_size mkB_extract mkB_get mkB_append mkB_append_raw raw_append_mkB mkB_toList

def ResF2 (fs : List En) (b : Bool) (w : World) (r : Ending) (w' : World) : Prop := ∃ A c', r = .returned (.tuple #[.slice A fs.length c', .bool b]) ∧ OwnE w' w.heap.size A fs ∧ Below w.heap.size w w'
def ResF1 (fs : List En) (w : World) (r : Ending) (w' : World) : Prop := ∃ A c', r = .returned (.slice A fs.length c') ∧ OwnE w' w.heap.size A fs ∧ Below w.heap.size w w'
end Go.Proofs.YtiknkjhdieepbaaDoor
