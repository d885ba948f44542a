/-
  TreeDrop, with the room of what it hands back; dropping, plainly.
-/
import Derived.Test.YtiknkjhdieepbaaDoorNilE
import Derived.Test.YtiknkjhdieepbaaDoorGE
import Derived.Test.YtiknkjhdieepbaaDoorPutK
namespace Go.Proofs.YtiknkjhdieepbaaDoor
open Go.RowKit
set_option linter.unusedVariables false
set_option linter.unusedSimpArgs false
attribute [local go_sem] mkB_size mkB_extract mkB_get mkB_append mkB_append_raw raw_append_mkB mkB_toList

def ResI (x : List En × Bool) (w : World) (r : Ending) (w' : World) : Prop := ∃ A c', r = .returned (.tuple #[.slice A x.1.length c', .bool x.2]) ∧ InE w' A c' x.1 ∧ Below w.heap.size w w'

/-! ### dropping keeps a tree a tree -/
theorem below_up {p s : List UInt8} (hp : p ≠ []) (h : below p (upL s) = true) : below p s = true := by
  by_cases hu : upL s = []
  · rw [hu] at h
    rcases below_iff.1 h with h | ⟨r, h⟩
    · exact absurd h.symm hp
    · simp at h
  · rcases split_last 47 s with h1 | ⟨a, c, hc, he⟩
    · exact absurd (upL_none h1) hu
    · have hua : upL s = a := by rw [he, upL_at hc]
      rw [hua] at h
      rw [below_iff]
      right
      rcases below_iff.1 h with h2 | ⟨r, h2⟩
      · exact ⟨c, by rw [he, h2]⟩
      · exact ⟨r ++ 47 :: c, by rw [he, h2]; simp⟩
theorem dropL_mem {es : List En} {p : List UInt8} {x : En} : x ∈ dropL es p ↔ x ∈ es ∧ below p x.path = false := by
  unfold dropL stays
  rw [List.mem_filter]
  simp
theorem dropL_sorted {es : List En} (hs : Sorted es) (p : List UInt8) : Sorted (dropL es p) := up_sorted ((sorted_up hs).sublist List.filter_sublist)
theorem dropL_ok {es : List En} {p : List UInt8} (ht : treeOk es = true) (hp : p ≠ []) : treeOk (dropL es p) = true := by
  have hT := treeOk_is ht
  have hs := hT.sorted
  have hs2 := dropL_sorted hs p
  refine treeOk_yes ⟨Nat.le_trans (List.length_filter_le _ _) hT.len, ?_, hs2, ?_⟩
  · intro i hi
    obtain ⟨h1, _⟩ := dropL_mem.1 (List.getElem_mem hi)
    obtain ⟨j, hj, h2⟩ := List.getElem_of_mem h1
    rw [← h2]; exact hT.ok j hj
  · intro i hi
    obtain ⟨h1, hb⟩ := dropL_mem.1 (List.getElem_mem hi)
    obtain ⟨j, hj, h2⟩ := List.getElem_of_mem h1
    have hpl := hT.place j hj
    rw [h2] at hpl
    unfold placeOk at hpl ⊢
    rw [Bool.or_eq_true] at hpl ⊢
    rcases hpl with h3 | h3
    · exact .inl h3
    · right
      obtain ⟨y, hy, hyp, hyk⟩ := (dirAt_iff hs _).1 h3
      refine (dirAt_iff hs2 _).2 ⟨y, dropL_mem.2 ⟨hy, ?_⟩, hyp, hyk⟩
      cases hby : below p y.path with
      | false => rfl
      | true =>
        rw [hyp] at hby
        rw [below_up hp hby] at hb
        cases hb
theorem dropL_less {es : List En} {p : List UInt8} (h : there es p = true) : (dropL es p).length < es.length := by
  obtain ⟨hk, he⟩ := there_iff.1 h
  unfold dropL
  rw [List.length_filter_lt_length_iff_exists]
  exact ⟨_, List.getElem_mem hk, by unfold stays; rw [he, below_iff.2 (.inl rfl)]; simp⟩
/-- where the k-th entry lies among those that stay -/
def stayN (es : List En) (p : List UInt8) (k : Nat) : Nat := ((es.take k).filter (stays p)).length
theorem stayN_zero (es : List En) (p : List UInt8) : stayN es p 0 = 0 := rfl
theorem stayN_all (es : List En) (p : List UInt8) : stayN es p es.length = (dropL es p).length := by unfold stayN; rw [List.take_length]; rfl
theorem stayN_yes {es : List En} {p : List UInt8} {k : Nat} (hk : k < es.length) (h : below p es[k].path = false) : stayN es p (k + 1) = stayN es p k + 1 ∧ (dropL es p)[stayN es p k]? = some es[k] := by
  have hst : stays p es[k] = true := by unfold stays; rw [h]; rfl
  constructor
  · unfold stayN
    rw [List.take_succ_eq_append_getElem hk, List.filter_append, List.length_append, List.filter_cons, hst]; rfl
  · unfold stayN dropL
    conv => lhs; arg 1; rw [← List.take_append_drop k es, List.filter_append]
    rw [List.getElem?_append_right (Nat.le_refl _), Nat.sub_self, List.drop_eq_getElem_cons hk, List.filter_cons, hst]
    rfl
theorem stayN_no {es : List En} {p : List UInt8} {k : Nat} (hk : k < es.length) (h : below p es[k].path = true) : stayN es p (k + 1) = stayN es p k := by
  have hst : stays p es[k] = false := by unfold stays; rw [h]; rfl
  unfold stayN
  rw [List.take_succ_eq_append_getElem hk, List.filter_append, List.length_append, List.filter_cons, hst]; rfl
end Go.Proofs.YtiknkjhdieepbaaDoor
