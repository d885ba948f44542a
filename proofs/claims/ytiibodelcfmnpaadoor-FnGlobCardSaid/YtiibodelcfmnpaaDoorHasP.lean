/-
  The walk of strings.HasPrefix.
-/
import Derived.Test.YtiibodelcfmnpaaDoorBasic
namespace Go.Proofs.YtiibodelcfmnpaaDoor
open Go.RowKit
set_option linter.unusedVariables false
theorem hp_get (l : List UInt8) (k : Nat) (h : k < (mkB l).size) : (mkB l)[k] = l[k]'(by rwa [mkB_size] at h) := rfl
attribute [local go_sem] mkB_size mkB_extract hp_get mkB_append mkB_append_raw raw_append_mkB mkB_toList

theorem isPrefixOf_take (p s : List UInt8) : (s.take p.length == p) = p.isPrefixOf s := by
  rw [Bool.eq_iff_iff, beq_iff_eq, List.isPrefixOf_iff_prefix]
  constructor
  · intro e; rw [← e]; exact List.take_prefix _ _
  · intro e; exact (List.prefix_iff_eq_take.1 e).symm
theorem isPrefixOf_long {p s : List UInt8} (h : s.length < p.length) : p.isPrefixOf s = false := by
  rw [Bool.eq_false_iff]; intro e
  have := (List.isPrefixOf_iff_prefix.1 e).length_le
  omega

set_option maxHeartbeats 1000000 in
theorem slHasPrefix_any (s p : List UInt8) (hs : s.length ≤ 9223372036854775807) (w : World) :
    Calls Tryd.prog 68 #[.string (mkB s), .string (mkB p)] w fun e w' => e = .returned (.bool (p.isPrefixOf s)) ∧ w = w' := by
  by_cases h : p.length ≤ s.length
  · go_enter Tryd.func68, Tryd.ntmps68
    go_wp2
    go_ret
    exact ⟨ret_bool (isPrefixOf_take _ _), rfl⟩
  · go_enter Tryd.func68, Tryd.ntmps68
    go_wp2
    go_ret
    exact ⟨ret_bool (isPrefixOf_long (by omega)).symm, rfl⟩
end Go.Proofs.YtiibodelcfmnpaaDoor
