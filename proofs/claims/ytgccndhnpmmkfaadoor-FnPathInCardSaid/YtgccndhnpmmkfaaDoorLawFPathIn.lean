/-
  The law FnPathIn, walked: what is below what is below is below.
-/
import Derived.Test.YtgccndhnpmmkfaaDoorPathG
import Derived.Test.YtgccndhnpmmkfaaDoorDrawP
import Derived.Test.YtgccndhnpmmkfaaDoorPlainP
namespace Go.Proofs.YtgccndhnpmmkfaaDoor
open Go.RowKit
set_option linter.unusedVariables false
attribute [local go_sem] mkB_size mkB_extract mkB_get mkB_append mkB_append_raw raw_append_mkB mkB_toList

theorem below_up_any (s : List UInt8) : (upL s).length ≤ s.length := by
  by_cases h : (47 : UInt8) ∈ s
  · exact Nat.le_of_lt (up_len h)
  · rw [upL_none h]; simp

set_option maxHeartbeats 2000000 in
set_option maxRecDepth 100000 in
theorem law_FnPathIn (A0 : Option Addr) (n0 c0 : Nat) (w : World) (h0 : IsBytes w A0 n0 c0) :
    Calls Tryd.prog 9 #[.slice A0 n0 c0] w fun e w' => e = .returned (.bool true) ∧ Below w.heap.size w w' := by
  by_cases hn : n0 ≤ 1048576
  · go_enter Tryd.func9, Tryd.ntmps9
    go_wp2_with fail
    refine (DrawPathIn_any A0 n0 c0 w h0).mono ?_
    rintro e w1 ⟨p, s, hp, hs, rfl, hB⟩
    replace hp := drawn_short _ hp
    replace hs := drawn_short _ hs
    rcases boolOf (pathIn p s) with hin | hin
    · have htok : True := trivial
      go_wp2_with fail
      refine (PathIn_any p s (by omega) (by omega) _).mono ?_
      rintro e w2 ⟨rfl, hB'⟩
      replace hB := hB.trans (hB'.mono hB.size)
      clear hB'
      rw [hin.out]
      go_wp2_with fail
      refine (specPathIn_any p s (by omega) (by omega) _).mono ?_
      rintro e w3 ⟨rfl, hB'⟩
      replace hB := hB.trans (hB'.mono hB.size)
      clear hB'
      rw [hin.out]
      go_wp2_with fail
      refine (specPathIn_any p s (by omega) (by omega) _).mono ?_
      rintro e w4 ⟨rfl, hB'⟩
      replace hB := hB.trans (hB'.mono hB.size)
      clear hB'
      rw [hin.out]
      go_wp2
      go_ret
      exact ⟨rfl, hB⟩
    · have hu := up_in hin.out
      have hul : (pathUp p).length ≤ 20 := by
        rcases hu with e | e
        · rw [e]; simp
        · have := below_len' (pathIn_of e).2.2; omega
      by_cases hps : p = s
      · subst hps
        cases hx : pathUp p with
        | nil =>
          clear hu hul
          have hx := Lib.hid hx
          go_wp2_with fail
          refine (PathIn_any p p (by omega) (by omega) _).mono ?_
          rintro e w2 ⟨rfl, hB'⟩
          replace hB := hB.trans (hB'.mono hB.size)
          clear hB'
          rw [hin.out]
          go_wp2_with fail
          refine (specPathIn_any p p (by omega) (by omega) _).mono ?_
          rintro e w3 ⟨rfl, hB'⟩
          replace hB := hB.trans (hB'.mono hB.size)
          clear hB'
          rw [hin.out]
          go_wp2_with fail
          refine (PathUp_any p (by omega) _).mono ?_
          rintro e w4 ⟨rfl, hB'⟩
          replace hB := hB.trans (hB'.mono hB.size)
          clear hB'
          rw [hx.out]
          go_wp2
          go_ret
          exact ⟨rfl, hB⟩
        | cons a x =>
          rw [hx] at hul hu
          replace hu := hu.resolve_left (by simp)
          have hu := Lib.hid hu
          have hx := Lib.hid hx
          go_wp2_with fail
          refine (PathIn_any p p (by omega) (by omega) _).mono ?_
          rintro e w2 ⟨rfl, hB'⟩
          replace hB := hB.trans (hB'.mono hB.size)
          clear hB'
          rw [hin.out]
          go_wp2_with fail
          refine (specPathIn_any p p (by omega) (by omega) _).mono ?_
          rintro e w3 ⟨rfl, hB'⟩
          replace hB := hB.trans (hB'.mono hB.size)
          clear hB'
          rw [hin.out]
          go_wp2_with fail
          refine (PathUp_any p (by omega) _).mono ?_
          rintro e w4 ⟨rfl, hB'⟩
          replace hB := hB.trans (hB'.mono hB.size)
          clear hB'
          rw [hx.out]
          go_wp2_with fail
          refine (PathIn_any (a :: x) p (by omega) (by omega) _).mono ?_
          rintro e w5 ⟨rfl, hB'⟩
          replace hB := hB.trans (hB'.mono hB.size)
          clear hB'
          rw [hu.out]
          go_wp2
          go_ret
          exact ⟨rfl, hB⟩
      · obtain ⟨i1, i2, i3⟩ := in_up hin.out hps
        have hue : (upL s).length ≤ 20 := by have := below_up_any s; omega
        have hps' : (p == s) = false := by simpa using hps
        replace hps := Lib.hid hps
        replace i1 := Lib.hid i1
        replace i2 := Lib.hid i2
        replace i3 := Lib.hid i3
        cases hx : pathUp p with
        | nil =>
          clear hu hul
          have hx := Lib.hid hx
          go_wp2_with fail
          refine (PathIn_any p s (by omega) (by omega) _).mono ?_
          rintro e w2 ⟨rfl, hB'⟩
          replace hB := hB.trans (hB'.mono hB.size)
          clear hB'
          rw [hin.out]
          go_wp2_with fail
          refine (specPathIn_any p s (by omega) (by omega) _).mono ?_
          rintro e w3 ⟨rfl, hB'⟩
          replace hB := hB.trans (hB'.mono hB.size)
          clear hB'
          rw [hin.out]
          go_wp2_with fail
          refine (PathUp_any p (by omega) _).mono ?_
          rintro e w4 ⟨rfl, hB'⟩
          replace hB := hB.trans (hB'.mono hB.size)
          clear hB'
          rw [hx.out]
          go_wp2_with fail
          refine (PathUp_any s (by omega) _).mono ?_
          rintro e w5 ⟨rfl, hB'⟩
          replace hB := hB.trans (hB'.mono hB.size)
          clear hB'
          rw [i1.out]
          go_wp2_with fail
          refine (PathIn_any p (upL s) (by omega) (by omega) _).mono ?_
          rintro e w6 ⟨rfl, hB'⟩
          replace hB := hB.trans (hB'.mono hB.size)
          clear hB'
          rw [i2.out]
          go_wp2_with fail
          refine (PathIn_any s p (by omega) (by omega) _).mono ?_
          rintro e w7 ⟨rfl, hB'⟩
          replace hB := hB.trans (hB'.mono hB.size)
          clear hB'
          rw [i3.out]
          go_wp2
          go_ret
          exact ⟨rfl, hB⟩
        | cons a x =>
          rw [hx] at hul hu
          replace hu := hu.resolve_left (by simp)
          have hu := Lib.hid hu
          have hx := Lib.hid hx
          go_wp2_with fail
          refine (PathIn_any p s (by omega) (by omega) _).mono ?_
          rintro e w2 ⟨rfl, hB'⟩
          replace hB := hB.trans (hB'.mono hB.size)
          clear hB'
          rw [hin.out]
          go_wp2_with fail
          refine (specPathIn_any p s (by omega) (by omega) _).mono ?_
          rintro e w3 ⟨rfl, hB'⟩
          replace hB := hB.trans (hB'.mono hB.size)
          clear hB'
          rw [hin.out]
          go_wp2_with fail
          refine (PathUp_any p (by omega) _).mono ?_
          rintro e w4 ⟨rfl, hB'⟩
          replace hB := hB.trans (hB'.mono hB.size)
          clear hB'
          rw [hx.out]
          go_wp2_with fail
          refine (PathUp_any s (by omega) _).mono ?_
          rintro e w5 ⟨rfl, hB'⟩
          replace hB := hB.trans (hB'.mono hB.size)
          clear hB'
          rw [i1.out]
          go_wp2_with fail
          refine (PathIn_any p (upL s) (by omega) (by omega) _).mono ?_
          rintro e w6 ⟨rfl, hB'⟩
          replace hB := hB.trans (hB'.mono hB.size)
          clear hB'
          rw [i2.out]
          go_wp2_with fail
          refine (PathIn_any s p (by omega) (by omega) _).mono ?_
          rintro e w7 ⟨rfl, hB'⟩
          replace hB := hB.trans (hB'.mono hB.size)
          clear hB'
          rw [i3.out]
          go_wp2_with fail
          refine (PathIn_any (a :: x) s (by omega) (by omega) _).mono ?_
          rintro e w8 ⟨rfl, hB'⟩
          replace hB := hB.trans (hB'.mono hB.size)
          clear hB'
          rw [hu.out]
          go_wp2
          go_ret
          exact ⟨rfl, hB⟩
  · obtain ⟨g1, g2, _⟩ := h0
    unfold maxLen at g2
    go_enter Tryd.func9, Tryd.ntmps9
    go_wp2
    go_ret
    exact ⟨rfl, Below.refl _ _⟩
end Go.Proofs.YtgccndhnpmmkfaaDoor
