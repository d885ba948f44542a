/-
  The law FnTreePart: whatever the input (bytes), the call returns true, and the input reads afterwards as it did. No condition; the listed variables of the library are tied by the given tie.
-/
import Derived.Test.YtjihpbioofikcaaDoorCards
import Derived.Test.YtjihpbioofikcaaDoorTie
import Derived.Test.YtjihpbioofikcaaDoorLawFTreePart
import Derived.WalkKit
import Derived.ProofKit
import Derived.OpenShut
import Derived.ShutString
import Derived.ChangeOld
import Derived.Below
import Derived.Lay
import Derived.LaidOnce
import Derived.SevenTiedAt
import Derived.Test.YtjihpbioofikcaaDoorRSTreePart
import Derived.Test.YtjihpbioofikcaaDoorFactD
import Derived.Test.YtjihpbioofikcaaDoorFactL
namespace Go.Proofs.YtjihpbioofikcaaDoor.fnTreePart
open Go.ChangeShapes Go.WideShapes Go.ChangeAt Go.RowKit
open Go.ChangeMaps (open_string shut_string)
set_option linter.unusedVariables false
theorem plain (f : FuncId) (fn : Func) (hf : Tryd.pinned.checked.prog.funcNamed "loop.example/jackstay/laws.FnTreePart" = some f) (hfn : Tryd.pinned.checked.prog.funcs[f]? = some fn) :
    false = Tryd.pinned.checked.prog.looks [] ∧ ∀ (j : Nat) t, fn.params[j]? = some t → Tryd.pinned.checked.prog.wantsStandIn t = false := by
  obtain rfl : f = 17 := Option.some.inj ((show Tryd.prog.funcNamed "loop.example/jackstay/laws.FnTreePart" = some 17 by kernel_rfl).symm.trans hf) |>.symm
  obtain rfl : fn = Tryd.f17 := (Option.some.inj (Tryd.func17.symm.trans hfn)).symm
  refine ⟨factL, fun j t ht => ?_⟩
  rw [Tryd.params17] at ht
  have hm : t ∈ ([42] : List Nat) := by simpa using Array.mem_of_getElem? ht
  have hall : (([42] : List Nat).all fun u => !Tryd.prog.wantsStandIn u) = true := by kernel_rfl
  exact (show Tryd.prog.wantsStandIn t = false by simpa using List.all_eq_true.1 hall t hm)
theorem proved : Rows.FnTreePartCardSaid :=
  Claim7.holds_tied_plain_at .later [] _ _ _ _ said (fun _ h => by cases h) (by kernel_rfl) (fun _ h => by cases h) fnTreePart_row_tie rfl ⟨rfl, rfl⟩ factD rfl plain goes
#print axioms proved
end Go.Proofs.YtjihpbioofikcaaDoor.fnTreePart
