/-
  The walk of the reference's TreeDrop.
-/
import Derived.Test.YtjihpbioofikcaaDoorDropS
import Derived.Test.YtjihpbioofikcaaDoorResE
namespace Go.Proofs.YtjihpbioofikcaaDoor
open Go.RowKit
set_option linter.unusedVariables false
set_option linter.unusedSimpArgs false
attribute [local go_sem] mkB_size mkB_extract mkB_get mkB_append mkB_append_raw raw_append_mkB mkB_toList

set_option maxRecDepth 1000000 in
set_option maxHeartbeats 8000000 in
theorem specTreeDrop_any (es : List En) (p : List UInt8) (g c : Nat) (w : World) (hE : Ents w g es) (hsm : Small es) (hp : p.length ≤ 1048576) :
    Calls Tryd.prog 41 #[.slice (some ⟨g, 0, none⟩) es.length c, .string (mkB p)] w (ResE (treeDrop es p) w) := by
  have hEh := Lib.hid hE
  have hsh := Lib.hid hsm
  have hlen := hsm.1
  have hg := hE.1
  clear hE hsm
  rcases boolOf (treeOk es) with hok | hok
  · rw [treeDrop_bad hok.out]
    go_enter Tryd.func41, Tryd.ntmps41
    go_wp2_with fail
    refine (specTreeOk_any es g c _ hEh.out hsh.out).mono ?_
    rintro r w2 ⟨rfl, hB⟩
    rw [hok.out]
    go_wp2
    exact bodyPost_ret (v := .tuple #[.slice (some ⟨w2.heap.size, 0, none⟩) 0 0, .bool false]) (by simp [results, Tryd.results41, go_sem]) rfl ⟨some ⟨w2.heap.size, 0, none⟩, 0, rfl, .inl rfl, hB.alloc hB.size _⟩
  rcases boolOf (there es p) with hth | hth
  · rw [treeDrop_no hok.out hth.out]
    go_enter Tryd.func41, Tryd.ntmps41
    go_wp2_with fail
    refine (specTreeOk_any es g c _ hEh.out hsh.out).mono ?_
    rintro r w2 ⟨rfl, hB⟩
    rw [hok.out]
    have hE2 := Lib.hid (hEh.out.below hB hg)
    go_wp2_with fail
    refine (l2At_any es p g c _ hE2.out hlen).mono ?_
    rintro r w3 ⟨rfl, hB3⟩
    rw [hth.out]
    have hE3 := Lib.hid (hE2.out.below hB3 hE2.out.1)
    have hC3 := hB.trans (hB3.mono hB.size)
    go_wp2_with fail
    refine (l2Copy_any es g c _ hE3.out hlen).mono ?_
    rintro r w4 ⟨v, rfl, g4, c4, rfl, hg4, hc4, hR4, hB4⟩
    replace hR4 := Lib.hid hR4
    go_wp2
    exact bodyPost_ret (v := .tuple #[.slice (some ⟨g4, 0, none⟩) es.length c4, .bool false]) (by simp [results, Tryd.results41, go_sem]) rfl ⟨some ⟨g4, 0, none⟩, c4, rfl, .inr ⟨g4, c4, rfl, by have := hC3.size; omega, hc4, hR4.out⟩, hC3.trans (hB4.mono hC3.size)⟩
  · rw [treeDrop_yes hok.out hth.out]
    go_enter Tryd.func41, Tryd.ntmps41
    go_wp2_with fail
    refine (specTreeOk_any es g c _ hEh.out hsh.out).mono ?_
    rintro r w2 ⟨rfl, hB⟩
    rw [hok.out]
    have hE2 := Lib.hid (hEh.out.below hB hg)
    go_wp2_with fail
    refine (l2At_any es p g c _ hE2.out hlen).mono ?_
    rintro r w3 ⟨rfl, hB3⟩
    rw [hth.out]
    have hE3 := Lib.hid (hE2.out.below hB3 hE2.out.1)
    have hC3 := hB.trans (hB3.mono hB.size)
    go_wp2_with fail
    refine (l2Drop_any es p g c _ hE3.out hsh.out hp).mono ?_
    rintro r w4 ⟨v, rfl, g4, c4, rfl, hg4, hc4, hR4, hB4⟩
    replace hR4 := Lib.hid hR4
    go_wp2
    exact bodyPost_ret (v := .tuple #[.slice (some ⟨g4, 0, none⟩) (dropL es p).length c4, .bool true]) (by simp [results, Tryd.results41, go_sem]) rfl ⟨some ⟨g4, 0, none⟩, c4, rfl, .inr ⟨g4, c4, rfl, by have := hC3.size; omega, hc4, hR4.out⟩, hC3.trans (hB4.mono hC3.size)⟩
end Go.Proofs.YtjihpbioofikcaaDoor
