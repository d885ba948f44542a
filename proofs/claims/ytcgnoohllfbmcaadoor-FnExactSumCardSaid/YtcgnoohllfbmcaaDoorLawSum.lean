/-
  The law FnExactSum, walked.
-/
import Derived.Test.YtcgnoohllfbmcaaDoorSumN
namespace Go.Proofs.YtcgnoohllfbmcaaDoor
open Go.RowKit
set_option linter.unusedVariables false
set_option linter.unusedSimpArgs false
attribute [local go_sem] mkB_size

set_option maxHeartbeats 4000000 in
theorem law_FnExactSum (s : ByteArray) (hs : s.size ≤ maxLen) (w : World) (hK : KAt w) :
    Calls Tryd.prog 3 #[.string s] w fun e w' => e = .returned (.bool true) ∧ Below w.heap.size w w' := by
  rw [← mkB_self s]
  obtain ⟨l, hl⟩ : ∃ l, s.data.toList = l := ⟨_, rfl⟩
  rw [hl]
  clear hl
  by_cases hn : l.length ≤ 1048576
  case neg =>
    have hnI : ¬ (l.length : Int) ≤ 1048576 := by omega
    go_enter Tryd.func3, Tryd.ntmps3
    go_wp2
    go_ret
    exact ⟨rfl, Below.refl _ _⟩
  have hnI : (l.length : Int) ≤ 1048576 := by omega
  replace hK := Lib.hid hK
  go_enter Tryd.func3, Tryd.ntmps3
  go_wp2_with fail
  with_reducible refine (specSum_any l hn w).mono ?_
  rintro e w1 ⟨rfl, hB1⟩
  go_wp2_with fail
  with_reducible refine (implSum_any l hn w1 (hK.out.below hB1)).mono ?_
  rintro e w2 ⟨rfl, hB2⟩
  go_wp2
  go_ret
  exact ⟨rfl, hB1.trans (hB2.mono hB1.size)⟩
end Go.Proofs.YtcgnoohllfbmcaaDoor
