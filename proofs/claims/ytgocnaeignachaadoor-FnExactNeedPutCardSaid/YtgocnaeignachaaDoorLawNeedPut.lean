/-
  The law FnExactNeedPut, walked: the reference's answer and the program's are one.
-/
import Derived.Test.YtgocnaeignachaaDoorNeedF
namespace Go.Proofs.YtgocnaeignachaaDoor
open Go.RowKit
set_option linter.unusedVariables false
attribute [local go_sem] mkB_size mkB_extract mkB_toList

set_option maxHeartbeats 2000000 in
theorem law_FnExactNeedPut (nm : ByteArray) (kd : Int) (vr : ByteArray) (hn : nm.size ≤ maxLen) (hi : -9223372036854775808 ≤ kd ∧ kd ≤ 9223372036854775807) (hv : vr.size ≤ maxLen) (w : World) :
    Calls Tryd.prog 6 #[.agg #[.string nm, .int .i64 kd, .string vr]] w fun e w' => e = .returned (.bool true) ∧ Below w.heap.size w w' := by
  obtain ⟨nm, rfl⟩ : ∃ l, nm = mkB l := ⟨_, (mkB_self nm).symm⟩
  unfold maxLen at hn
  rw [mkB_size] at hn
  obtain ⟨vr, rfl⟩ : ∃ l, vr = mkB l := ⟨_, (mkB_self vr).symm⟩
  unfold maxLen at hv
  rw [mkB_size] at hv
  by_cases hs : nm.length + vr.length ≤ 1048576
  case neg =>
    have hsz := Lib.hid (show szN nm vr = -1 by unfold szN; rw [if_neg hs])
    go_enter Tryd.func6, Tryd.ntmps6
    go_wp2_with (go_at_call 16; refine (szNeed_any _ _ _ hn hv _).mono ?_; rintro e w1 ⟨rfl, hB1⟩; rw [hsz.out]; obtain ⟨ha0, ha1, ha2⟩ := cells3 hB1)
    go_ret
    exact ⟨rfl, ((Below.refl _ _).alloc (Nat.le_refl _) _).trans (hB1.mono (by simp))⟩
  have hsz := Lib.hid (show szN nm vr = 1048576 - nm.length - vr.length by unfold szN; rw [if_pos hs])
  have hsn : 0 ≤ (1048576 : Int) - nm.length - vr.length := by omega
  go_enter Tryd.func6, Tryd.ntmps6
  go_wp2_with fail
  refine (szNeed_any _ _ _ hn hv _).mono ?_
  rintro e w1 ⟨rfl, hA1⟩
  rw [hsz.out]
  obtain ⟨ha0, ha1, ha2⟩ := cells3 hA1
  go_wp2_with fail
  refine (toNeed_any _ _ _ _).mono ?_
  rintro e w2 ⟨rfl, hB2⟩
  have hA2 := hA1.trans (hB2.mono hA1.size)
  clear hB2 ha0 ha1 ha2
  obtain ⟨ha0, ha1, ha2⟩ := cells3 hA2
  go_wp2_with fail
  refine (specNeedPut_any _ _ _ (by omega) (by omega) _).mono ?_
  rintro e w3 ⟨rfl, hB3⟩
  have hA3 := hA2.trans (hB3.mono hA2.size)
  clear hB3 ha0 ha1 ha2
  obtain ⟨ha0, ha1, ha2⟩ := cells3 hA3
  go_wp2_with fail
  refine (toNeed_any _ _ _ _).mono ?_
  rintro e w4 ⟨rfl, hB4⟩
  have hA4 := hA3.trans (hB4.mono hA3.size)
  clear hB4 ha0 ha1 ha2
  obtain ⟨ha0, ha1, ha2⟩ := cells3 hA4
  go_wp2_with fail
  refine (NeedPut_any _ _ _ (by omega) (by omega) _).mono ?_
  rintro e w5 ⟨rfl, hB5⟩
  have hA5 := hA4.trans (hB5.mono hA4.size)
  clear hB5 ha0 ha1 ha2
  obtain ⟨ha0, ha1, ha2⟩ := cells3 hA5
  go_wp2
  go_ret
  exact ⟨rfl, ((Below.refl _ _).alloc (Nat.le_refl _) _).trans (hA5.mono (by simp))⟩
end Go.Proofs.YtgocnaeignachaaDoor
