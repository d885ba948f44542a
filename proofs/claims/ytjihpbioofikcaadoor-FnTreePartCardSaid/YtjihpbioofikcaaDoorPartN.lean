/-
  TreePart at a tree that is nil.
-/
import Derived.Test.YtjihpbioofikcaaDoorPartI
namespace Go.Proofs.YtjihpbioofikcaaDoor
open Go.RowKit
set_option linter.unusedVariables false
set_option linter.unusedSimpArgs false
attribute [local go_sem] mkB_size mkB_extract mkB_get mkB_append mkB_append_raw raw_append_mkB mkB_toList

set_option maxRecDepth 1000000 in
set_option maxHeartbeats 8000000 in
theorem TreePart_nil (l : List UInt8) (w : World) (hl : l.length ≤ 1048576) :
    Calls Tryd.prog 33 #[.slice none 0 0, .string (mkB l)] w fun r w' => r = .returned (.slice none 0 0) ∧ Below w.heap.size w w' := by
  go_enter Tryd.func33, Tryd.ntmps33
  go_wp2_with fail
  obtain ⟨W0, hW⟩ : ∃ X, w.alloc (.cells #[.string (mkB l)] 9) = X := ⟨_, rfl⟩
  have hP0 : PBox W0 w.heap.size l := by rw [← hW]; exact ⟨by simp, by rw [row_cell _ _ _ _ _ _ (World.alloc_heap_new w (.cells #[.string (mkB l)] 9))]; rfl⟩
  have hB0 : Below w.heap.size w W0 := by rw [← hW]; exact (Below.refl _ _).alloc (Nat.le_refl _) _
  rw [hW]
  clear hW
  obtain ⟨gb, hgb⟩ : ∃ x, w.heap.size = x := ⟨_, rfl⟩
  rw [hgb] at hP0 ⊢
  with_reducible refine (TreeOk_nil _).mono ?_
  rintro r w1 ⟨rfl, hB⟩
  have hC1 := hB0.trans (hB.mono hB0.size)
  have hP1 := Lib.hid (hP0.below hB hP0.1)
  clear hP0 hB0 hB
  replace hgb := Lib.hid hgb
  have p0 := hP1.out.2
  have pl := hP1.out.1
  go_wp2_with fail
  with_reducible refine (GlobOk_any l hl _).mono ?_
  rintro r w2 ⟨rfl, hB⟩
  have hC2 := hC1.trans (hB.mono hC1.size)
  clear hP1 hB p0 pl
  rcases boolOf (globOk l) with hgo | hgo
  · rw [hgo.out]
    go_wp2
    go_ret
    exact ⟨rfl, hC2⟩
  rw [hgo.out]
  go_wp2
  go_loopw [5, 19] (fun out ii wr => ii = .int .i64 0 ∧ out = .slice none 0 0 ∧ wr = w2) (fun _ ii _ => 0)
  case atStart => exact ⟨rfl, rfl, rfl⟩
  case round =>
    obtain ⟨rfl, rfl, rfl⟩ := hrel
    go_wp2
    go_ret
    exact ⟨rfl, hC2⟩
theorem treePart_nil (l : List UInt8) : treePart [] l = [] := List.length_eq_zero_iff.1 (by have := treePart_len [] l; simpa using this)
theorem TreePart_in (es : List En) (l : List UInt8) (A : Option Addr) (c : Nat) (w : World) (hI : InE w A c es) (hsm : Small es) (hl : l.length ≤ 1048576) :
    Calls Tryd.prog 33 #[.slice A es.length c, .string (mkB l)] w (ResF1 (treePart es l) w) := by
  rcases hI with ⟨rfl, rfl, rfl⟩ | ⟨g, rfl, h, hc⟩
  · rw [treePart_nil]
    exact (TreePart_nil l w hl).mono fun r w' ⟨h1, h2⟩ => ⟨none, 0, h1, .inl rfl, h2⟩
  · exact TreePart_any es l g c w h hsm hc hl
end Go.Proofs.YtjihpbioofikcaaDoor
