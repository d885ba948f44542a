/-
  The law FnExactTreeText, walked: the reference's answer and the program's are one.
-/
import Derived.Test.YtgokdcdicddccaaDoorArgE
import Derived.Test.YtgokdcdicddccaaDoorTextI
namespace Go.Proofs.YtgokdcdicddccaaDoor
open Go.RowKit
set_option linter.unusedVariables false
set_option linter.unusedSimpArgs false
attribute [local go_sem] mkB_size mkB_extract mkB_get mkB_append mkB_append_raw raw_append_mkB mkB_toList

set_option maxHeartbeats 8000000 in
theorem law_FnExactTreeText (es : List En) (A : Option Addr) (n c : Nat) (w : World) (hE : ArgE w A n c es) :
    Calls Tryd.prog 6 #[.slice A n c] w fun e w' => e = .returned (.bool true) ∧ Below w.heap.size w w' := by
  obtain ⟨b, hb⟩ : ∃ b, treeText es = b := ⟨_, rfl⟩
  replace hb := Lib.hid hb
  have hEh := Lib.hid hE
  clear hE
  go_enter Tryd.func6, Tryd.ntmps6
  go_wp2_with fail
  refine (szEntryS_any es A n c w hEh.out).mono ?_
  rintro e w1 ⟨v, rfl, hv0, hv1, hsm, hB1⟩
  by_cases hv : v < 0
  · go_wp2
    go_ret
    exact ⟨rfl, hB1⟩
  replace hsm := Lib.hid (hsm.out (by omega))
  have hlen := hsm.out.1
  have hE1 := Lib.hid (hEh.out.below hB1)
  go_wp2_with fail
  refine (toEntryS_any es A n c w1 hE1.out hsm.out).mono ?_
  rintro e w2 ⟨rfl, hx2, hB2⟩
  have hC2 := hB1.trans (hB2.mono hB1.size)
  replace hx2 := Lib.hid hx2
  go_wp2_with fail
  refine (specTreeText_any es _ _ _ hx2.out hsm.out).mono ?_
  rintro e w3 ⟨rfl, hB3⟩
  rw [hb.out]
  have hC3 := hC2.trans (hB3.mono hC2.size)
  have hE3 := Lib.hid (hEh.out.below hC3)
  go_wp2_with fail
  refine (toEntryS_any es A n c _ hE3.out hsm.out).mono ?_
  rintro e w4 ⟨rfl, hx4, hB4⟩
  have hC4 := hC3.trans (hB4.mono hC3.size)
  have hg4 := hx4.1
  replace hx4 := Lib.hid hx4
  go_wp2_with fail
  refine (TreeText_any es _ _ _ hx4.out hsm.out (Nat.le_refl _)).mono ?_
  rintro e w5 ⟨rfl, hB5⟩
  rw [hb.out]
  have hC5 := hC4.trans (hB5.mono hC4.size)
  have hE5 := Lib.hid (hEh.out.below hC5)
  have hx5 := Lib.hid (hx4.out.below hB5 hg4)
  have hg5 := hx5.out.1
  go_wp2_with fail
  refine (toEntryS_any es A n c _ hE5.out hsm.out).mono ?_
  rintro e w6 ⟨rfl, hx6, hB6⟩
  have hC6 := hC5.trans (hB6.mono hC5.size)
  have hx7 := Lib.hid (hx5.out.below hB6 hg5)
  replace hx6 := Lib.hid hx6
  go_wp2_with (go_at_call 11; refine (eqEntryS_any es _ _ _ _ _ _ _ hx7.out hx6.out rfl rfl hlen).mono ?_; rintro e w7 ⟨rfl, hB7⟩)
  go_ret
  exact ⟨rfl, hC6.trans (hB7.mono hC6.size)⟩
end Go.Proofs.YtgokdcdicddccaaDoor
