/-
  The walk of the program's GlobOk.
-/
import Derived.Test.YtiibodelcfmnpaaDoorGlobH
namespace Go.Proofs.YtiibodelcfmnpaaDoor
open Go.RowKit
set_option linter.unusedVariables false
set_option linter.unusedSimpArgs false
attribute [local go_sem] mkB_size mkB_extract mkB_get mkB_toList
set_option maxHeartbeats 1000000 in
theorem GlobOk_any (l : List UInt8) (hl : l.length ≤ 1048576) (w : World) :
    Calls Tryd.prog 10 #[.string (mkB l)] w fun e w' => e = .returned (.bool (globOk l)) ∧ Below w.heap.size w w' := by
  go_enter Tryd.func10, Tryd.ntmps10
  go_wp2_with fail
  refine (globNames_any l hl _).mono ?_
  rintro e w1 ⟨hB, ⟨hbad, v, rfl⟩ | ⟨ys, g, cap, hgood, rfl, _, _⟩⟩
  · have hk : globOk l = false := by unfold globOk; rw [hbad]; rfl
    replace hbad := Lib.hid hbad
    replace hk := Lib.hid hk
    go_wp2
    go_ret
    exact ⟨ret_bool (by rw [hk.out]), hB⟩
  · have hk : globOk l = true := by unfold globOk; rw [hgood]; rfl
    replace hgood := Lib.hid hgood
    replace hk := Lib.hid hk
    go_wp2
    go_ret
    exact ⟨ret_bool (by rw [hk.out]), hB⟩
end Go.Proofs.YtiibodelcfmnpaaDoor
