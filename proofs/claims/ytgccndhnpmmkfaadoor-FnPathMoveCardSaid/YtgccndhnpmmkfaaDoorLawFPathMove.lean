/-
  The law FnPathMove, walked: a path that is moved is at the other place, and back it is as it was.
-/
import Derived.Test.YtgccndhnpmmkfaaDoorPathG
import Derived.Test.YtgccndhnpmmkfaaDoorDrawP
import Derived.Test.YtgccndhnpmmkfaaDoorPlainP
namespace Go.Proofs.YtgccndhnpmmkfaaDoor
open Go.RowKit
set_option linter.unusedVariables false
attribute [local go_sem] mkB_size mkB_extract mkB_get mkB_append mkB_append_raw raw_append_mkB mkB_toList

set_option maxHeartbeats 2000000 in
set_option maxRecDepth 100000 in
theorem law_FnPathMove (A0 : Option Addr) (n0 c0 : Nat) (w : World) (h0 : IsBytes w A0 n0 c0) :
    Calls Tryd.prog 8 #[.slice A0 n0 c0] w fun e w' => e = .returned (.bool true) ∧ Below w.heap.size w w' := by
  by_cases hn : n0 ≤ 1048576
  · go_enter Tryd.func8, Tryd.ntmps8
    go_wp2_with fail
    refine (DrawPathMove_any A0 n0 c0 w h0).mono ?_
    rintro e w1 ⟨s, f, t, hs, hf, ht, rfl, hB⟩
    have hmv := moved (s := s) (f := f) (t := t)
    cases hx : pathMove s f t with
    | nil =>
      clear hmv
      have hx := Lib.hid hx
      go_wp2_with fail
      refine (PathMove_any s f t (by omega) (by omega) (by omega) _).mono ?_
      rintro e w2 ⟨rfl, hB'⟩
      replace hB := hB.trans (hB'.mono hB.size)
      clear hB'
      rw [hx.out]
      go_wp2_with fail
      refine (specPathMove_any s f t (by omega) (by omega) (by omega) _).mono ?_
      rintro e w3 ⟨rfl, hB'⟩
      replace hB := hB.trans (hB'.mono hB.size)
      clear hB'
      rw [hx.out]
      go_wp2_with fail
      refine (specPathMove_any s f t (by omega) (by omega) (by omega) _).mono ?_
      rintro e w4 ⟨rfl, hB'⟩
      replace hB := hB.trans (hB'.mono hB.size)
      clear hB'
      rw [hx.out]
      go_wp2
      go_ret
      exact ⟨rfl, hB⟩
    | cons a x =>
      rw [hx] at hmv
      obtain ⟨m1, m2, m3, m4⟩ := hmv (by simp)
      clear hmv
      have hxl := pathOk_len m1
      replace hx := Lib.hid hx
      replace m1 := Lib.hid m1
      replace m2 := Lib.hid m2
      replace m3 := Lib.hid m3
      replace m4 := Lib.hid m4
      go_wp2_with fail
      refine (PathMove_any s f t (by omega) (by omega) (by omega) _).mono ?_
      rintro e w2 ⟨rfl, hB'⟩
      replace hB := hB.trans (hB'.mono hB.size)
      clear hB'
      rw [hx.out]
      go_wp2_with fail
      refine (specPathMove_any s f t (by omega) (by omega) (by omega) _).mono ?_
      rintro e w3 ⟨rfl, hB'⟩
      replace hB := hB.trans (hB'.mono hB.size)
      clear hB'
      rw [hx.out]
      go_wp2_with fail
      refine (PathOk_any (mkB (a :: x)) (by rw [mkB_size]; omega) _).mono ?_
      rintro e w4 ⟨rfl, hB'⟩
      replace hB := hB.trans (hB'.mono hB.size)
      clear hB'
      rw [mkB_data, m1.out]
      go_wp2_with fail
      refine (PathIn_any t (a :: x) (by omega) (by omega) _).mono ?_
      rintro e w5 ⟨rfl, hB'⟩
      replace hB := hB.trans (hB'.mono hB.size)
      clear hB'
      rw [m2.out]
      go_wp2_with fail
      refine (PathMove_any (a :: x) t f (by omega) (by omega) (by omega) _).mono ?_
      rintro e w6 ⟨rfl, hB'⟩
      replace hB := hB.trans (hB'.mono hB.size)
      clear hB'
      rw [m3.out]
      go_wp2_with fail
      refine (PathMove_any s f f (by omega) (by omega) (by omega) _).mono ?_
      rintro e w7 ⟨rfl, hB'⟩
      replace hB := hB.trans (hB'.mono hB.size)
      clear hB'
      rw [m4.out]
      go_wp2
      go_ret
      exact ⟨rfl, hB⟩
  · obtain ⟨g1, g2, _⟩ := h0
    unfold maxLen at g2
    go_enter Tryd.func8, Tryd.ntmps8
    go_wp2
    go_ret
    exact ⟨rfl, Below.refl _ _⟩
end Go.Proofs.YtgccndhnpmmkfaaDoor
