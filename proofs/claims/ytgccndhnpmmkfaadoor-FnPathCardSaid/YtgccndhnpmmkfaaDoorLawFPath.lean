/-
  The law FnPath, walked: a path is what it is in, a slash, and its last name.
-/
import Derived.Test.YtgccndhnpmmkfaaDoorPathG
import Derived.Test.YtgccndhnpmmkfaaDoorDrawP
import Derived.Test.YtgccndhnpmmkfaaDoorPlainP
namespace Go.Proofs.YtgccndhnpmmkfaaDoor
open Go.RowKit
set_option linter.unusedVariables false
attribute [local go_sem] mkB_size mkB_extract mkB_get mkB_append mkB_append_raw raw_append_mkB mkB_toList

set_option maxHeartbeats 2000000 in
set_option maxRecDepth 100000 in
theorem law_FnPath (A0 : Option Addr) (n0 c0 : Nat) (w : World) (h0 : IsBytes w A0 n0 c0) :
    Calls Tryd.prog 11 #[.slice A0 n0 c0] w fun e w' => e = .returned (.bool true) ∧ Below w.heap.size w w' := by
  by_cases hn : n0 ≤ 1048576
  · go_enter Tryd.func11, Tryd.ntmps11
    go_wp2_with fail
    refine (DrawPathOk_any A0 n0 c0 w h0).mono ?_
    rintro e w1 ⟨s, hs, rfl, hB⟩
    replace hs := drawn_short _ hs
    have hsz : (mkB s).size ≤ 140737488355328 := by rw [mkB_size]; omega
    rcases boolOf (pathOk s) with hok | hok
    · have hu : Hid (pathUp s = []) := Lib.hid (by unfold pathUp; rw [hok.out]; rfl)
      have hl : Hid (pathLast s = []) := Lib.hid (by unfold pathLast; rw [hok.out]; rfl)
      go_wp2_with fail
      refine (PathOk_any (mkB s) hsz _).mono ?_
      rintro e w2 ⟨rfl, hB'⟩
      replace hB := hB.trans (hB'.mono hB.size)
      clear hB'
      rw [mkB_data, hok.out]
      go_wp2_with fail
      refine (PathUp_any s (by omega) _).mono ?_
      rintro e w3 ⟨rfl, hB'⟩
      replace hB := hB.trans (hB'.mono hB.size)
      clear hB'
      rw [hu.out]
      go_wp2_with fail
      refine (PathLast_any s (by omega) _).mono ?_
      rintro e w4 ⟨rfl, hB'⟩
      replace hB := hB.trans (hB'.mono hB.size)
      clear hB'
      rw [hl.out]
      go_wp2_with fail
      refine (specPathOk_any s (by omega) _).mono ?_
      rintro e w5 ⟨rfl, hB'⟩
      replace hB := hB.trans (hB'.mono hB.size)
      clear hB'
      rw [hok.out]
      go_wp2_with fail
      refine (specPathUp_any s (by omega) _).mono ?_
      rintro e w6 ⟨rfl, hB'⟩
      replace hB := hB.trans (hB'.mono hB.size)
      clear hB'
      rw [hu.out]
      go_wp2_with fail
      refine (specPathLast_any s (by omega) _).mono ?_
      rintro e w7 ⟨rfl, hB'⟩
      replace hB := hB.trans (hB'.mono hB.size)
      clear hB'
      rw [hl.out]
      go_wp2_with fail
      refine (specPathOk_any s (by omega) _).mono ?_
      rintro e w8 ⟨rfl, hB'⟩
      replace hB := hB.trans (hB'.mono hB.size)
      clear hB'
      rw [hok.out]
      go_wp2_with fail
      refine (specPathUp_any s (by omega) _).mono ?_
      rintro e w9 ⟨rfl, hB'⟩
      replace hB := hB.trans (hB'.mono hB.size)
      clear hB'
      rw [hu.out]
      go_wp2_with fail
      refine (specPathLast_any s (by omega) _).mono ?_
      rintro e w10 ⟨rfl, hB'⟩
      replace hB := hB.trans (hB'.mono hB.size)
      clear hB'
      rw [hl.out]
      go_wp2
      go_ret
      exact ⟨rfl, hB⟩
    · rcases path_parts hok.out with ⟨hu, hl, hi⟩ | ⟨hu, he, ho, hi, hi2⟩
      · replace hu := Lib.hid hu
        replace hl := Lib.hid hl
        replace hi := Lib.hid hi
        go_wp2_with fail
        refine (PathOk_any (mkB s) hsz _).mono ?_
        rintro e w2 ⟨rfl, hB'⟩
        replace hB := hB.trans (hB'.mono hB.size)
        clear hB'
        rw [mkB_data, hok.out]
        go_wp2_with fail
        refine (PathUp_any s (by omega) _).mono ?_
        rintro e w3 ⟨rfl, hB'⟩
        replace hB := hB.trans (hB'.mono hB.size)
        clear hB'
        rw [hu.out]
        go_wp2_with fail
        refine (PathLast_any s (by omega) _).mono ?_
        rintro e w4 ⟨rfl, hB'⟩
        replace hB := hB.trans (hB'.mono hB.size)
        clear hB'
        rw [hl.out]
        go_wp2_with fail
        refine (specPathOk_any s (by omega) _).mono ?_
        rintro e w5 ⟨rfl, hB'⟩
        replace hB := hB.trans (hB'.mono hB.size)
        clear hB'
        rw [hok.out]
        go_wp2_with fail
        refine (specPathUp_any s (by omega) _).mono ?_
        rintro e w6 ⟨rfl, hB'⟩
        replace hB := hB.trans (hB'.mono hB.size)
        clear hB'
        rw [hu.out]
        go_wp2_with fail
        refine (specPathLast_any s (by omega) _).mono ?_
        rintro e w7 ⟨rfl, hB'⟩
        replace hB := hB.trans (hB'.mono hB.size)
        clear hB'
        rw [hl.out]
        go_wp2_with fail
        refine (PathIn_any s s (by omega) (by omega) _).mono ?_
        rintro e w8 ⟨rfl, hB'⟩
        replace hB := hB.trans (hB'.mono hB.size)
        clear hB'
        rw [hi.out]
        go_wp2
        go_ret
        exact ⟨rfl, hB⟩
      · cases hx : pathUp s with
        | nil => exact absurd hx hu
        | cons a x =>
          rw [hx] at he ho hi hi2
          have hal : (a :: x).length ≤ 20 := by have := congrArg List.length he; simp at this ⊢; omega
          have hll : (pathLast s).length ≤ 20 := by have := congrArg List.length he; simp at this ⊢; omega
          obtain ⟨z, hz⟩ : ∃ z, Hid (pathLast s = z) := ⟨_, Lib.hid rfl⟩
          rw [hz.out] at he hll
          replace hx := Lib.hid hx
          replace he := Lib.hid he
          replace ho := Lib.hid ho
          replace hi := Lib.hid hi
          replace hi2 := Lib.hid hi2
          have hxz : (mkB (a :: x)).size ≤ 140737488355328 := by rw [mkB_size]; omega
          go_wp2_with fail
          refine (PathOk_any (mkB s) hsz _).mono ?_
          rintro e w2 ⟨rfl, hB'⟩
          replace hB := hB.trans (hB'.mono hB.size)
          clear hB'
          rw [mkB_data, hok.out]
          go_wp2_with fail
          refine (PathUp_any s (by omega) _).mono ?_
          rintro e w3 ⟨rfl, hB'⟩
          replace hB := hB.trans (hB'.mono hB.size)
          clear hB'
          rw [hx.out]
          go_wp2_with fail
          refine (PathLast_any s (by omega) _).mono ?_
          rintro e w4 ⟨rfl, hB'⟩
          replace hB := hB.trans (hB'.mono hB.size)
          clear hB'
          rw [hz.out]
          go_wp2_with fail
          refine (specPathOk_any s (by omega) _).mono ?_
          rintro e w5 ⟨rfl, hB'⟩
          replace hB := hB.trans (hB'.mono hB.size)
          clear hB'
          rw [hok.out]
          go_wp2_with fail
          refine (specPathUp_any s (by omega) _).mono ?_
          rintro e w6 ⟨rfl, hB'⟩
          replace hB := hB.trans (hB'.mono hB.size)
          clear hB'
          rw [hx.out]
          go_wp2_with fail
          refine (specPathLast_any s (by omega) _).mono ?_
          rintro e w7 ⟨rfl, hB'⟩
          replace hB := hB.trans (hB'.mono hB.size)
          clear hB'
          rw [hz.out]
          have hal2 : x.length ≤ 19 := by simp at hal; omega
          have he2 : a :: (x ++ 47 :: z) = s := he.out
          go_wp2_with fail
          refine (PathOk_any _ hxz _).mono ?_
          rintro e w8 ⟨rfl, hB'⟩
          replace hB := hB.trans (hB'.mono hB.size)
          clear hB'
          rw [mkB_data, ho.out]
          go_wp2_with fail
          refine (PathIn_any (a :: x) s (by omega) (by omega) _).mono ?_
          rintro e w9 ⟨rfl, hB'⟩
          replace hB := hB.trans (hB'.mono hB.size)
          clear hB'
          rw [hi.out]
          go_wp2_with fail
          refine (PathIn_any s (a :: x) (by omega) (by omega) _).mono ?_
          rintro e w10 ⟨rfl, hB'⟩
          replace hB := hB.trans (hB'.mono hB.size)
          clear hB'
          rw [hi2.out]
          go_wp2
          go_ret
          exact ⟨rfl, hB⟩
  · obtain ⟨g1, g2, _⟩ := h0
    unfold maxLen at g2
    go_enter Tryd.func11, Tryd.ntmps11
    go_wp2
    go_ret
    exact ⟨rfl, Below.refl _ _⟩
end Go.Proofs.YtgccndhnpmmkfaaDoor
