/-
  The walk of the reference's PathMove.
-/
import Derived.Test.YtjihpbioofikcaaDoorPathF
namespace Go.Proofs.YtjihpbioofikcaaDoor
open Go.RowKit
set_option linter.unusedVariables false
attribute [local go_sem] mkB_size mkB_extract mkB_get mkB_append mkB_append_raw raw_append_mkB mkB_toList

theorem pathIn_parts {f s : List UInt8} (h : pathIn f s = true) : pathOk f = true ∧ pathOk s = true ∧ below f s = true := by
  unfold pathIn at h
  simp only [Bool.and_eq_true] at h
  exact ⟨h.1.1, h.1.2, h.2⟩
theorem below_len {f s : List UInt8} (h : below f s = true) : f.length ≤ s.length := by
  rcases below_iff.1 h with e | ⟨r, e⟩
  · rw [e]; exact Nat.le_refl _
  · rw [e]; simp

end Go.Proofs.YtjihpbioofikcaaDoor
