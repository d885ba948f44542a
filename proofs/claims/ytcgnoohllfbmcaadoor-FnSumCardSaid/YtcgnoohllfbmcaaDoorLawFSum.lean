/-
  The law FnSum, walked.
-/
import Derived.Test.YtcgnoohllfbmcaaDoorSumN
import Derived.Test.YtcgnoohllfbmcaaDoorDrawSm
namespace Go.Proofs.YtcgnoohllfbmcaaDoor
open Go.RowKit
set_option linter.unusedVariables false
set_option linter.unusedSimpArgs false
attribute [local go_sem] mkB_size

theorem implSum_abc (w : World) (hK : KAt w) : Calls Tryd.prog 6 #[.string { data := #[97, 98, 99] }] w fun e w' => e = .returned (.string { data := #[98, 97, 55, 56, 49, 54, 98, 102, 56, 102, 48, 49, 99, 102, 101, 97] }) ∧ Below w.heap.size w w' := by
  have h := implSum_any [97, 98, 99] (by decide) w hK
  rw [sumT_abc] at h
  exact h
set_option maxHeartbeats 4000000 in
theorem law_FnSum (A0 : Option Addr) (n0 c0 : Nat) (w : World) (h0 : IsBytes w A0 n0 c0) (hK : KAt w) :
    Calls Tryd.prog 4 #[.slice A0 n0 c0] w fun e w' => e = .returned (.bool true) ∧ Below w.heap.size w w' := by
  by_cases hn0 : n0 ≤ 1048576
  case neg =>
    go_enter Tryd.func4, Tryd.ntmps4
    go_wp2
    go_ret
    exact ⟨rfl, Below.refl _ _⟩
  replace hK := Lib.hid hK
  go_enter Tryd.func4, Tryd.ntmps4
  go_wp2_with fail
  with_reducible refine (DrawSum_any A0 n0 c0 w h0).mono ?_
  rintro e w1 ⟨s, hs, rfl, hC⟩
  have hs2 : s.length ≤ 1048576 := by omega
  have hT := sumT_len s
  obtain ⟨T, hTe⟩ : ∃ T, sumT s = T := ⟨_, rfl⟩
  have hi := fun w' (h : KAt w') => implSum_any s hs2 w' h
  have hp := fun w' => specSum_any s hs2 w'
  rw [hTe] at hT hi hp
  replace hi := Lib.hid hi
  replace hp := Lib.hid hp
  clear hTe
  go_wp2_with fail
  with_reducible refine (hi.out w1 (hK.out.below hC)).mono ?_
  rintro e w2 ⟨rfl, hB⟩
  replace hC := hC.trans (hB.mono hC.size)
  clear hB
  go_wp2_with fail
  with_reducible refine (hp.out w2).mono ?_
  rintro e w3 ⟨rfl, hB⟩
  replace hC := hC.trans (hB.mono hC.size)
  clear hB
  go_wp2_with fail
  with_reducible refine (implSum_abc w3 (hK.out.below hC)).mono ?_
  rintro e w4 ⟨rfl, hB⟩
  replace hC := hC.trans (hB.mono hC.size)
  clear hB
  go_wp2_with fail
  with_reducible refine (hi.out w4 (hK.out.below hC)).mono ?_
  rintro e w5 ⟨rfl, hB⟩
  replace hC := hC.trans (hB.mono hC.size)
  clear hB
  go_wp2
  go_ret
  exact ⟨rfl, hC⟩
end Go.Proofs.YtcgnoohllfbmcaaDoor
