/-
  Entries that came in as an argument, out of the statement's own reading.
-/
import Derived.Test.YtiknkjhdieepbaaDoorGD
import Derived.Deep.Slices
import Derived.Deep.Fields
import Derived.ChangeSame
namespace Go.Proofs.YtiknkjhdieepbaaDoor
open Go.RowKit Go.ChangeShapes Go.WideShapes Go.Deep
set_option linter.unusedVariables false

theorem list_of {α : Type} {P : Nat → α → Prop} : ∀ n, (∀ i, i < n → ∃ e, P i e) → ∃ es : List α, es.length = n ∧ ∀ i (h : i < es.length), P i es[i]
  | 0, _ => ⟨[], rfl, fun i h => by simp at h⟩
  | n + 1, h => by
    obtain ⟨es, hl, he⟩ := list_of n (fun i hi => h i (by omega))
    obtain ⟨e, hp⟩ := h n (by omega)
    refine ⟨es ++ [e], by simp [hl], fun i hi => ?_⟩
    rcases Nat.lt_or_ge i es.length with h1 | h1
    · rw [List.getElem_append_left h1]; exact he i h1
    · obtain rfl : i = n := by simp at hi; omega
      rw [List.getElem_append_right h1]
      simpa [hl] using hp

theorem str_of {s : ByteArray} (h : s.size ≤ maxLen) : ∃ l : List UInt8, s = mkB l ∧ l.length ≤ 9223372036854775807 := by
  refine ⟨s.data.toList, (mkB_self s).symm, ?_⟩
  unfold maxLen at h
  rw [← Lib.size_eq]
  omega
section
variable {H : Type} {enc : TypeId × Value → H} {w : World} {base : Nat} {spare : Nat → Bool} {held : Bool}

end
end Go.Proofs.YtiknkjhdieepbaaDoor
