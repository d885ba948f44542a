/-
  TreeGet at a tree that is nil.
-/
import Derived.Test.YtiknkjhdieepbaaDoorNilE
import Derived.Test.YtiknkjhdieepbaaDoorTreeG
namespace Go.Proofs.YtiknkjhdieepbaaDoor
open Go.RowKit
set_option linter.unusedVariables false
set_option linter.unusedSimpArgs false
attribute [local go_sem] mkB_size mkB_extract mkB_get mkB_append mkB_append_raw raw_append_mkB mkB_toList

set_option maxRecDepth 1000000 in
set_option maxHeartbeats 8000000 in
theorem TreeGet_nil (p : List UInt8) (w : World) :
    Calls Tryd.prog 8 #[.slice none 0 0, .string (mkB p)] w fun e w' => e = .returned (.tuple #[.agg #[.string { data := #[] }, .int .i64 0, .int .i64 0, .string { data := #[] }], .bool false]) ∧ Below w.heap.size w w' := by
  go_enter Tryd.func8, Tryd.ntmps8
  go_wp2_with fail
  obtain ⟨W1, hW1⟩ : ∃ W1, (w.alloc (.cells #[.string { data := #[] }, .int .i64 0, .int .i64 0, .string { data := #[] }] 30)) = W1 := ⟨_, rfl⟩
  have hr1 : Box4 W1 w.heap.size 30 (.string { data := #[] }) (.int .i64 0) (.int .i64 0) (.string { data := #[] }) := by rw [← hW1]; exact (Box4.new _ _ _ _ _ _)
  have hz1 : W1.heap.size = w.heap.size + 1 := by rw [← hW1]; simp
  have hB1 : Below w.heap.size w W1 := by rw [← hW1]; exact ((Below.refl _ _).alloc (Nat.le_refl _) _)
  rw [hW1]
  clear hW1
  with_reducible refine (TreeOk_nil _).mono ?_
  rintro e w2 ⟨rfl, hB⟩
  have hr2 := Box4.below hr1 hB (by omega)
  have hB2 := hB1.trans (hB.mono (by omega))
  have hz2 : w.heap.size < w2.heap.size := by have := hB.size; omega
  clear hB
  go_wp2_with fail
  with_reducible refine (findEntry_nil p _).mono ?_
  rintro e w3 ⟨rfl, hB⟩
  have hr3 := Box4.below hr2 hB (by omega)
  have hB3 := hB2.trans (hB.mono (by omega))
  have hz3 : w.heap.size < w3.heap.size := by have := hB.size; omega
  clear hB
  have b0 := hr3.cell0
  have f0 := hr3.frozen 0
  have b1 := hr3.cell1
  have f1 := hr3.frozen 1
  have b2 := hr3.cell2
  have f2 := hr3.frozen 2
  have b3 := hr3.cell3
  have f3 := hr3.frozen 3
  go_wp2
  have hfin := (((hr3.set0 (.string { data := #[] })).set1 (.int .i64 0)).set2 (.int .i64 0)).set3 (.string { data := #[] })
  have e0 := hfin.cell0
  have e1 := hfin.cell1
  have e2 := hfin.cell2
  have e3 := hfin.cell3
  refine bodyPost_ret (v := .tuple #[.agg #[(.string { data := #[] }), (.int .i64 0), (.int .i64 0), (.string { data := #[] })], .bool false]) (by simp [results, Tryd.results8, go_sem, e0, e1, e2, e3]) rfl ⟨rfl, ?_⟩
  exact (((hB3.setCell (p := ⟨w.heap.size, 0, none⟩) (Nat.le_refl _) _).setCell (p := ⟨w.heap.size, 1, none⟩) (Nat.le_refl _) _).setCell (p := ⟨w.heap.size, 2, none⟩) (Nat.le_refl _) _).setCell (p := ⟨w.heap.size, 3, none⟩) (Nat.le_refl _) _
theorem TreeGet_in (es : List En) (p : List UInt8) (A : Option Addr) (c : Nat) (w : World) (hI : InE w A c es) (hsm : Small es) (hp : p.length ≤ 1048576) :
    Calls Tryd.prog 8 #[.slice A es.length c, .string (mkB p)] w fun e w' => e = .returned (entV (treeGet es p)) ∧ Below w.heap.size w w' := by
  rcases hI with ⟨rfl, rfl, rfl⟩ | ⟨g, rfl, h, hc⟩
  · rw [treeGet_no (show there [] p = false by simp [there, atGo])]
    exact TreeGet_nil p w
  · exact TreeGet_any es p g c w h hsm hc hp
end Go.Proofs.YtiknkjhdieepbaaDoor
