/-
  TreeDrop, with the room of what it hands back; dropping, plainly.
-/
import Derived.Test.YtjihpbioofikcaaDoorNilE
import Derived.Test.YtjihpbioofikcaaDoorGE
import Derived.Test.YtjihpbioofikcaaDoorPutK
namespace Go.Proofs.YtjihpbioofikcaaDoor
open Go.RowKit
set_option linter.unusedVariables false
set_option linter.unusedSimpArgs false
attribute [local go_sem] mkB_size mkB_extract mkB_get mkB_append mkB_append_raw raw_append_mkB mkB_toList

def ResI (x : List En × Bool) (w : World) (r : Ending) (w' : World) : Prop := ∃ A c', r = .returned (.tuple #[.slice A x.1.length c', .bool x.2]) ∧ InE w' A c' x.1 ∧ Below w.heap.size w w'

set_option maxRecDepth 1000000 in
set_option maxHeartbeats 8000000 in
theorem TreeDrop_c (es : List En) (p : List UInt8) (g c : Nat) (w : World) (hE : Ents w g es) (hsm : Small es) (hcap : es.length ≤ c) (hp : p.length ≤ 1048576) :
    Calls Tryd.prog 40 #[.slice (some ⟨g, 0, none⟩) es.length c, .string (mkB p)] w (ResI (treeDrop es p) w) := by
  have hEh := Lib.hid hE
  have hsh := Lib.hid hsm
  have hlen := hsm.1
  clear hE hsm
  have hstart : ∃ W1, w.alloc (.cells #[.string (mkB p)] 9) = W1 ∧ PBox W1 w.heap.size p ∧ Ents W1 g es ∧ Below w.heap.size w W1 ∧ w.heap.size < W1.heap.size := by
    refine ⟨_, rfl, ⟨by simp, ?_⟩, hEh.out.alloc _, (Below.refl _ _).alloc (Nat.le_refl _) _, by simp⟩
    rw [row_cell _ _ _ _ _ _ (World.alloc_heap_new w _)]; rfl
  replace hstart := Lib.hid hstart
  rcases boolOf (treeOk es) with hok | hok
  · rw [treeDrop_bad hok.out]
    go_enter Tryd.func40, Tryd.ntmps40
    go_wp2_with fail
    obtain ⟨W1, hW1, hP1, hE1, hB1, hz1⟩ := hstart.out
    rw [hW1]
    clear hW1
    refine (TreeOk_any es g c _ hE1 hsh.out hcap).mono ?_
    rintro r w2 ⟨rfl, hB⟩
    rw [hok.out]
    have hB2 := hB1.trans (hB.mono (by omega))
    clear hP1 hE1
    go_wp2
    exact bodyPost_ret (v := .tuple #[.slice none 0 0, .bool false]) (by simp [results, Tryd.results40, go_sem]) rfl ⟨none, 0, rfl, .inl ⟨rfl, rfl, rfl⟩, hB2⟩
  rcases boolOf (there es p) with hth | hth
  · rw [treeDrop_no hok.out hth.out]
    go_enter Tryd.func40, Tryd.ntmps40
    go_wp2_with fail
    obtain ⟨W1, hW1, hP1, hE1, hB1, hz1⟩ := hstart.out
    rw [hW1]
    clear hW1
    refine (TreeOk_any es g c _ hE1 hsh.out hcap).mono ?_
    rintro r w2 ⟨rfl, hB⟩
    rw [hok.out]
    have hB2 := hB1.trans (hB.mono (by omega))
    have hE2 := Lib.hid (hE1.below hB hE1.1)
    have hP2 := hP1.below hB hz1
    go_wp2_with fail
    refine (Clone_any es g c w2 hE2.out hlen).mono ?_
    rintro r w3 ⟨v, rfl, g3, c3, rfl, hg3, hc3, hR3, hB3⟩
    have hP3 := hP2.below hB3 hP2.1
    have hE3 := Lib.hid (hE2.out.below hB3 hE2.out.1)
    have hC3 := hB2.trans (hB3.mono hB2.size)
    have hpc := hP3.2
    have hgl := hR3.lt
    replace hR3 := Lib.hid hR3
    go_wp2_with fail
    refine (findEntry_any es p g c _ hE3.out (treeOk_is hok.out).sorted hlen).mono ?_
    rintro r w4 ⟨rfl, hB4⟩
    rw [hth.out]
    go_wp2
    exact bodyPost_ret (v := .tuple #[.slice (some ⟨g3, 0, none⟩) es.length c3, .bool false]) (by simp [results, Tryd.results40, go_sem]) rfl ⟨some ⟨g3, 0, none⟩, c3, rfl, .inr ⟨g3, rfl, (hR3.out.below hB4 hgl).ents, hc3⟩, hC3.trans (hB4.mono hC3.size)⟩
  · rw [treeDrop_yes hok.out hth.out]
    have hkd := Lib.hid (keeps_drop hok.out hth.out)
    go_enter Tryd.func40, Tryd.ntmps40
    go_wp2_with fail
    obtain ⟨W1, hW1, hP1, hE1, hB1, hz1⟩ := hstart.out
    rw [hW1]
    clear hW1
    refine (TreeOk_any es g c _ hE1 hsh.out hcap).mono ?_
    rintro r w2 ⟨rfl, hB⟩
    rw [hok.out]
    have hB2 := hB1.trans (hB.mono (by omega))
    have hE2 := Lib.hid (hE1.below hB hE1.1)
    have hP2 := hP1.below hB hz1
    go_wp2_with fail
    refine (Clone_any es g c w2 hE2.out hlen).mono ?_
    rintro r w3 ⟨v, rfl, g3, c3, rfl, hg3, hc3, hR3, hB3⟩
    have hP3 := hP2.below hB3 hP2.1
    have hE3 := Lib.hid (hE2.out.below hB3 hE2.out.1)
    have hC3 := hB2.trans (hB3.mono hB2.size)
    have hpc := hP3.2
    have hgl := hR3.lt
    have hpg : w.heap.size ≠ g3 := by have := hP2.1; omega
    replace hR3 := Lib.hid hR3
    go_wp2_with fail
    refine (findEntry_any es p g c _ hE3.out (treeOk_is hok.out).sorted hlen).mono ?_
    rintro r w4 ⟨rfl, hB4⟩
    rw [hth.out]
    have hC4 := hC3.trans (hB4.mono hC3.size)
    have hR4 := Lib.hid (hR3.out.below hB4 hgl)
    have hP4 := Lib.hid (hP3.below hB4 hP3.1)
    clear hpc
    go_wp2_with fail
    refine (deleteFunc_any es p w.heap.size g3 c3 c3 _ hR4.out hc3 hc3 hsh.out hP4.out hpg hp).mono ?_
    rintro r w5 ⟨rfl, hR5, hgr⟩
    rw [hkd.out] at hR5 ⊢
    replace hR5 := Lib.hid hR5
    have hdl : (dropL es p).length ≤ c3 := Nat.le_trans (List.length_filter_le _ _) hc3
    go_wp2
    exact bodyPost_ret (v := .tuple #[.slice (some ⟨g3, 0, none⟩) (dropL es p).length c3, .bool true]) (by simp [results, Tryd.results40, go_sem]) rfl ⟨some ⟨g3, 0, none⟩, c3, rfl, .inr ⟨g3, rfl, hR5.out.ents, hdl⟩, hC4.grown hgr hC4.size (fun k e => by cases e; have := hB2.size; omega)⟩

/-! ### dropping keeps a tree a tree -/
theorem below_up {p s : List UInt8} (hp : p ≠ []) (h : below p (upL s) = true) : below p s = true := by
  by_cases hu : upL s = []
  · rw [hu] at h
    rcases below_iff.1 h with h | ⟨r, h⟩
    · exact absurd h.symm hp
    · simp at h
  · rcases split_last 47 s with h1 | ⟨a, c, hc, he⟩
    · exact absurd (upL_none h1) hu
    · have hua : upL s = a := by rw [he, upL_at hc]
      rw [hua] at h
      rw [below_iff]
      right
      rcases below_iff.1 h with h2 | ⟨r, h2⟩
      · exact ⟨c, by rw [he, h2]⟩
      · exact ⟨r ++ 47 :: c, by rw [he, h2]; simp⟩
theorem dropL_mem {es : List En} {p : List UInt8} {x : En} : x ∈ dropL es p ↔ x ∈ es ∧ below p x.path = false := by
  unfold dropL stays
  rw [List.mem_filter]
  simp
theorem dropL_sorted {es : List En} (hs : Sorted es) (p : List UInt8) : Sorted (dropL es p) := up_sorted ((sorted_up hs).sublist List.filter_sublist)
theorem dropL_ok {es : List En} {p : List UInt8} (ht : treeOk es = true) (hp : p ≠ []) : treeOk (dropL es p) = true := by
  have hT := treeOk_is ht
  have hs := hT.sorted
  have hs2 := dropL_sorted hs p
  refine treeOk_yes ⟨Nat.le_trans (List.length_filter_le _ _) hT.len, ?_, hs2, ?_⟩
  · intro i hi
    obtain ⟨h1, _⟩ := dropL_mem.1 (List.getElem_mem hi)
    obtain ⟨j, hj, h2⟩ := List.getElem_of_mem h1
    rw [← h2]; exact hT.ok j hj
  · intro i hi
    obtain ⟨h1, hb⟩ := dropL_mem.1 (List.getElem_mem hi)
    obtain ⟨j, hj, h2⟩ := List.getElem_of_mem h1
    have hpl := hT.place j hj
    rw [h2] at hpl
    unfold placeOk at hpl ⊢
    rw [Bool.or_eq_true] at hpl ⊢
    rcases hpl with h3 | h3
    · exact .inl h3
    · right
      obtain ⟨y, hy, hyp, hyk⟩ := (dirAt_iff hs _).1 h3
      refine (dirAt_iff hs2 _).2 ⟨y, dropL_mem.2 ⟨hy, ?_⟩, hyp, hyk⟩
      cases hby : below p y.path with
      | false => rfl
      | true =>
        rw [hyp] at hby
        rw [below_up hp hby] at hb
        cases hb
theorem dropL_less {es : List En} {p : List UInt8} (h : there es p = true) : (dropL es p).length < es.length := by
  obtain ⟨hk, he⟩ := there_iff.1 h
  unfold dropL
  rw [List.length_filter_lt_length_iff_exists]
  exact ⟨_, List.getElem_mem hk, by unfold stays; rw [he, below_iff.2 (.inl rfl)]; simp⟩
/-- where the k-th entry lies among those that stay -/
def stayN (es : List En) (p : List UInt8) (k : Nat) : Nat := ((es.take k).filter (stays p)).length
theorem stayN_zero (es : List En) (p : List UInt8) : stayN es p 0 = 0 := rfl
theorem stayN_all (es : List En) (p : List UInt8) : stayN es p es.length = (dropL es p).length := by unfold stayN; rw [List.take_length]; rfl
theorem stayN_yes {es : List En} {p : List UInt8} {k : Nat} (hk : k < es.length) (h : below p es[k].path = false) : stayN es p (k + 1) = stayN es p k + 1 ∧ (dropL es p)[stayN es p k]? = some es[k] := by
  have hst : stays p es[k] = true := by unfold stays; rw [h]; rfl
  constructor
  · unfold stayN
    rw [List.take_succ_eq_append_getElem hk, List.filter_append, List.length_append, List.filter_cons, hst]; rfl
  · unfold stayN dropL
    conv => lhs; arg 1; rw [← List.take_append_drop k es, List.filter_append]
    rw [List.getElem?_append_right (Nat.le_refl _), Nat.sub_self, List.drop_eq_getElem_cons hk, List.filter_cons, hst]
    rfl
theorem stayN_no {es : List En} {p : List UInt8} {k : Nat} (hk : k < es.length) (h : below p es[k].path = true) : stayN es p (k + 1) = stayN es p k := by
  have hst : stays p es[k] = false := by unfold stays; rw [h]; rfl
  unfold stayN
  rw [List.take_succ_eq_append_getElem hk, List.filter_append, List.length_append, List.filter_cons, hst]; rfl
end Go.Proofs.YtjihpbioofikcaaDoor
