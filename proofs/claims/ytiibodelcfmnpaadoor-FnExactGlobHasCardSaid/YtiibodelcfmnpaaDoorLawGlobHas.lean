/-
  The law FnExactGlobHas, walked: the reference's answer and the program's are one.
-/
import Derived.Test.YtiibodelcfmnpaaDoorGlobL
namespace Go.Proofs.YtiibodelcfmnpaaDoor
open Go.RowKit
set_option linter.unusedVariables false
attribute [local go_sem] mkB_size mkB_extract mkB_toList

set_option maxHeartbeats 1000000 in
theorem law_FnExactGlobHas (s0 : ByteArray) (hs0 : s0.size ≤ maxLen) (s1 : ByteArray) (hs1 : s1.size ≤ maxLen) (w : World) :
    Calls Tryd.prog 6 #[.string s0, .string s1] w fun e w' => e = .returned (.bool true) ∧ Below w.heap.size w w' := by
  obtain ⟨l0, rfl⟩ : ∃ l, s0 = mkB l := ⟨_, (mkB_self s0).symm⟩
  unfold maxLen at hs0
  rw [mkB_size] at hs0
  obtain ⟨l1, rfl⟩ : ∃ l, s1 = mkB l := ⟨_, (mkB_self s1).symm⟩
  unfold maxLen at hs1
  rw [mkB_size] at hs1
  by_cases h0 : l0.length ≤ 1048576
  · by_cases h1 : l1.length ≤ 1048576
    · go_enter Tryd.func6, Tryd.ntmps6
      go_wp2_with fail
      refine (specGlobHas_any l0 l1 (by omega) (by omega) _).mono ?_
      rintro e w1 ⟨rfl, hB⟩
      go_wp2_with fail
      refine (GlobHas_any l0 l1 (by omega) (by omega) _).mono ?_
      rintro e w2 ⟨rfl, hB2⟩
      go_wp2
      go_ret
      exact ⟨rfl, hB.trans (hB2.mono hB.size)⟩
    · go_enter Tryd.func6, Tryd.ntmps6
      go_wp2
      go_ret
      exact ⟨rfl, Below.refl _ _⟩
  · go_enter Tryd.func6, Tryd.ntmps6
    go_wp2
    go_ret
    exact ⟨rfl, Below.refl _ _⟩
end Go.Proofs.YtiibodelcfmnpaaDoor
