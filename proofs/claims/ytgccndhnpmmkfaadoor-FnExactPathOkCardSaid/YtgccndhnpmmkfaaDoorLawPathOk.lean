/-
  The law FnExactPathOk, walked.
-/
import Derived.Test.YtgccndhnpmmkfaaDoorPathR
namespace Go.Proofs.YtgccndhnpmmkfaaDoor
open Go.RowKit
attribute [local go_sem] mkB_size mkB_extract

set_option maxHeartbeats 1000000 in
theorem law_FnExactPathOk (s : ByteArray) (hs : s.size ≤ maxLen) (w : World) :
    Calls Tryd.prog 3 #[.string s] w fun e w' => e = .returned (.bool true) ∧ Below w.heap.size w w' := by
  obtain ⟨l, rfl⟩ : ∃ l, s = mkB l := ⟨_, (mkB_self s).symm⟩
  unfold maxLen at hs
  rw [mkB_size] at hs
  by_cases hl : l.length ≤ 1048576
  · go_enter Tryd.func3, Tryd.ntmps3
    go_wp2_with fail
    refine (specPathOk_any l (by omega) _).mono ?_
    rintro e w1 ⟨rfl, hB⟩
    go_wp2_with fail
    refine (PathOk_any (mkB l) (by rw [mkB_size]; omega) _).mono ?_
    rintro e w2 ⟨rfl, hB2⟩
    rw [mkB_data]
    go_wp2
    go_ret
    exact ⟨rfl, hB.trans (hB2.mono hB.size)⟩
  · go_enter Tryd.func3, Tryd.ntmps3
    go_wp2
    go_ret
    exact ⟨rfl, Below.refl _ _⟩
end Go.Proofs.YtgccndhnpmmkfaaDoor
