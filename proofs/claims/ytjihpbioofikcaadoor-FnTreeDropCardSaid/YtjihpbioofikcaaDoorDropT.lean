/-
  The walk of the program's TreeDrop.
-/
import Derived.Test.YtjihpbioofikcaaDoorDropD
namespace Go.Proofs.YtjihpbioofikcaaDoor
open Go.RowKit
set_option linter.unusedVariables false
set_option linter.unusedSimpArgs false
attribute [local go_sem] mkB_size mkB_extract mkB_get mkB_append mkB_append_raw raw_append_mkB mkB_toList

noncomputable def treeDrop (es : List En) (p : List UInt8) : List En × Bool := if treeOk es = true then (if there es p = true then (dropL es p, true) else (es, false)) else ([], false)
theorem treeDrop_bad {es : List En} {p : List UInt8} (h : treeOk es = false) : treeDrop es p = ([], false) := by unfold treeDrop; rw [h]; rfl
theorem treeDrop_no {es : List En} {p : List UInt8} (h : treeOk es = true) (h2 : there es p = false) : treeDrop es p = (es, false) := by unfold treeDrop; rw [h, h2]; rfl
theorem treeDrop_yes {es : List En} {p : List UInt8} (h : treeOk es = true) (h2 : there es p = true) : treeDrop es p = (dropL es p, true) := by unfold treeDrop; rw [h, h2]; rfl
theorem keeps_drop {es : List En} {p : List UInt8} (h : treeOk es = true) (h2 : there es p = true) : es.filter (keeps p) = dropL es p := by
  unfold dropL
  refine List.filter_congr (fun e he => ?_)
  obtain ⟨i, hi, rfl⟩ := List.getElem_of_mem he
  unfold keeps
  rw [stays_in h h2 hi]
  simp
/-- entries of the call's own and a word on them were handed back -/
def ResE (x : List En × Bool) (w : World) (r : Ending) (w' : World) : Prop := ∃ A c', r = .returned (.tuple #[.slice A x.1.length c', .bool x.2]) ∧ OwnE w' w.heap.size A x.1 ∧ Below w.heap.size w w'

set_option maxRecDepth 1000000 in
set_option maxHeartbeats 8000000 in
theorem TreeDrop_any (es : List En) (p : List UInt8) (g c : Nat) (w : World) (hE : Ents w g es) (hsm : Small es) (hcap : es.length ≤ c) (hp : p.length ≤ 1048576) :
    Calls Tryd.prog 40 #[.slice (some ⟨g, 0, none⟩) es.length c, .string (mkB p)] w (ResE (treeDrop es p) w) := by
  have hEh := Lib.hid hE
  have hsh := Lib.hid hsm
  have hlen := hsm.1
  clear hE hsm
  have hstart : ∃ W1, w.alloc (.cells #[.string (mkB p)] 9) = W1 ∧ PBox W1 w.heap.size p ∧ Ents W1 g es ∧ Below w.heap.size w W1 ∧ w.heap.size < W1.heap.size := by
    refine ⟨_, rfl, ⟨by simp, ?_⟩, hEh.out.alloc _, (Below.refl _ _).alloc (Nat.le_refl _) _, by simp⟩
    rw [row_cell _ _ _ _ _ _ (World.alloc_heap_new w _)]; rfl
  replace hstart := Lib.hid hstart
  rcases boolOf (treeOk es) with hok | hok
  · rw [treeDrop_bad hok.out]
    go_enter Tryd.func40, Tryd.ntmps40
    go_wp2_with fail
    obtain ⟨W1, hW1, hP1, hE1, hB1, hz1⟩ := hstart.out
    rw [hW1]
    clear hW1
    refine (TreeOk_any es g c _ hE1 hsh.out hcap).mono ?_
    rintro r w2 ⟨rfl, hB⟩
    rw [hok.out]
    have hB2 := hB1.trans (hB.mono (by omega))
    clear hP1 hE1
    go_wp2
    exact bodyPost_ret (v := .tuple #[.slice none 0 0, .bool false]) (by simp [results, Tryd.results40, go_sem]) rfl ⟨none, 0, rfl, .inl rfl, hB2⟩
  rcases boolOf (there es p) with hth | hth
  · rw [treeDrop_no hok.out hth.out]
    go_enter Tryd.func40, Tryd.ntmps40
    go_wp2_with fail
    obtain ⟨W1, hW1, hP1, hE1, hB1, hz1⟩ := hstart.out
    rw [hW1]
    clear hW1
    refine (TreeOk_any es g c _ hE1 hsh.out hcap).mono ?_
    rintro r w2 ⟨rfl, hB⟩
    rw [hok.out]
    have hB2 := hB1.trans (hB.mono (by omega))
    have hE2 := Lib.hid (hE1.below hB hE1.1)
    have hP2 := hP1.below hB hz1
    go_wp2_with fail
    refine (Clone_any es g c w2 hE2.out hlen).mono ?_
    rintro r w3 ⟨v, rfl, g3, c3, rfl, hg3, hc3, hR3, hB3⟩
    have hP3 := hP2.below hB3 hP2.1
    have hE3 := Lib.hid (hE2.out.below hB3 hE2.out.1)
    have hC3 := hB2.trans (hB3.mono hB2.size)
    have hpc := hP3.2
    have hgl := hR3.lt
    replace hR3 := Lib.hid hR3
    go_wp2_with fail
    refine (findEntry_any es p g c _ hE3.out (treeOk_is hok.out).sorted hlen).mono ?_
    rintro r w4 ⟨rfl, hB4⟩
    rw [hth.out]
    go_wp2
    exact bodyPost_ret (v := .tuple #[.slice (some ⟨g3, 0, none⟩) es.length c3, .bool false]) (by simp [results, Tryd.results40, go_sem]) rfl ⟨some ⟨g3, 0, none⟩, c3, rfl, .inr ⟨g3, c3, rfl, by have := hB2.size; omega, hc3, hR3.out.below hB4 hgl⟩, hC3.trans (hB4.mono hC3.size)⟩
  · rw [treeDrop_yes hok.out hth.out]
    have hkd := Lib.hid (keeps_drop hok.out hth.out)
    go_enter Tryd.func40, Tryd.ntmps40
    go_wp2_with fail
    obtain ⟨W1, hW1, hP1, hE1, hB1, hz1⟩ := hstart.out
    rw [hW1]
    clear hW1
    refine (TreeOk_any es g c _ hE1 hsh.out hcap).mono ?_
    rintro r w2 ⟨rfl, hB⟩
    rw [hok.out]
    have hB2 := hB1.trans (hB.mono (by omega))
    have hE2 := Lib.hid (hE1.below hB hE1.1)
    have hP2 := hP1.below hB hz1
    go_wp2_with fail
    refine (Clone_any es g c w2 hE2.out hlen).mono ?_
    rintro r w3 ⟨v, rfl, g3, c3, rfl, hg3, hc3, hR3, hB3⟩
    have hP3 := hP2.below hB3 hP2.1
    have hE3 := Lib.hid (hE2.out.below hB3 hE2.out.1)
    have hC3 := hB2.trans (hB3.mono hB2.size)
    have hpc := hP3.2
    have hgl := hR3.lt
    have hpg : w.heap.size ≠ g3 := by have := hP2.1; omega
    replace hR3 := Lib.hid hR3
    go_wp2_with fail
    refine (findEntry_any es p g c _ hE3.out (treeOk_is hok.out).sorted hlen).mono ?_
    rintro r w4 ⟨rfl, hB4⟩
    rw [hth.out]
    have hC4 := hC3.trans (hB4.mono hC3.size)
    have hR4 := Lib.hid (hR3.out.below hB4 hgl)
    have hP4 := Lib.hid (hP3.below hB4 hP3.1)
    clear hpc
    go_wp2_with fail
    refine (deleteFunc_any es p w.heap.size g3 c3 c3 _ hR4.out hc3 hc3 hsh.out hP4.out hpg hp).mono ?_
    rintro r w5 ⟨rfl, hR5, hgr⟩
    rw [hkd.out] at hR5 ⊢
    replace hR5 := Lib.hid hR5
    have hdl : (dropL es p).length ≤ c3 := Nat.le_trans (List.length_filter_le _ _) hc3
    go_wp2
    exact bodyPost_ret (v := .tuple #[.slice (some ⟨g3, 0, none⟩) (dropL es p).length c3, .bool true]) (by simp [results, Tryd.results40, go_sem]) rfl ⟨some ⟨g3, 0, none⟩, c3, rfl, .inr ⟨g3, c3, rfl, by have := hB2.size; omega, hdl, hR5.out⟩, hC4.grown hgr hC4.size (fun k e => by cases e; have := hB2.size; omega)⟩
end Go.Proofs.YtjihpbioofikcaaDoor
