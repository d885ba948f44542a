/-
  The law FnExactGlobOk, walked: the reference's answer and the program's are one.
-/
import Derived.Test.YtiibodelcfmnpaaDoorGlobI
namespace Go.Proofs.YtiibodelcfmnpaaDoor
open Go.RowKit
set_option linter.unusedVariables false
attribute [local go_sem] mkB_size mkB_extract mkB_toList

set_option maxHeartbeats 1000000 in
theorem law_FnExactGlobOk (s0 : ByteArray) (hs0 : s0.size ≤ maxLen) (w : World) :
    Calls Tryd.prog 3 #[.string s0] w fun e w' => e = .returned (.bool true) ∧ Below w.heap.size w w' := by
  obtain ⟨l0, rfl⟩ : ∃ l, s0 = mkB l := ⟨_, (mkB_self s0).symm⟩
  unfold maxLen at hs0
  rw [mkB_size] at hs0
  by_cases h0 : l0.length ≤ 1048576
  · go_enter Tryd.func3, Tryd.ntmps3
    go_wp2_with fail
    refine (specGlobOk_any l0 (by omega) _).mono ?_
    rintro e w1 ⟨rfl, hB⟩
    go_wp2_with fail
    refine (GlobOk_any l0 (by omega) _).mono ?_
    rintro e w2 ⟨rfl, hB2⟩
    go_wp2
    go_ret
    exact ⟨rfl, hB.trans (hB2.mono hB.size)⟩
  · go_enter Tryd.func3, Tryd.ntmps3
    go_wp2
    go_ret
    exact ⟨rfl, Below.refl _ _⟩
end Go.Proofs.YtiibodelcfmnpaaDoor
