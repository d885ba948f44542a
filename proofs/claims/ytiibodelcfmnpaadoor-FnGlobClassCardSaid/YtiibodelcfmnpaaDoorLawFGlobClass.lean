/-
  The law FnGlobClass, walked.
-/
import Derived.Test.YtiibodelcfmnpaaDoorGlobL
import Derived.Test.YtiibodelcfmnpaaDoorGlobY
import Derived.Test.YtiibodelcfmnpaaDoorPathF
namespace Go.Proofs.YtiibodelcfmnpaaDoor
open Go.RowKit
set_option linter.unusedVariables false
set_option linter.unusedSimpArgs false
attribute [local go_sem] mkB_size mkB_extract mkB_get mkB_append mkB_append_raw raw_append_mkB mkB_toList

set_option maxRecDepth 1000000 in
set_option maxHeartbeats 32000000 in
theorem law_FnGlobClass (A0 : Option Addr) (n0 c0 : Nat) (w : World) (h0 : IsBytes w A0 n0 c0) :
    Calls Tryd.prog 8 #[.slice A0 n0 c0] w fun e w' => e = .returned (.bool true) ∧ Below w.heap.size w w' := by
  by_cases hn0 : n0 ≤ 1048576
  case neg =>
    go_enter Tryd.func8, Tryd.ntmps8
    go_wp2
    go_ret
    exact ⟨rfl, Below.refl _ _⟩
  go_enter Tryd.func8, Tryd.ntmps8
  go_wp2_with fail
  with_reducible refine (DrawGlobHas_any A0 n0 c0 w h0).mono ?_
  rintro e w1 ⟨g, s, hg, hs, rfl, hC⟩
  have hsl := drawn_short s hs
  have hgl := globs_short g hg
  have hul := (up_short s hs).2
  have hone := class_one s hs
  obtain ⟨b, hb⟩ : ∃ b, globHas g s = b := ⟨_, rfl⟩
  obtain ⟨t, ht⟩ : ∃ t, pathLast s = t := ⟨_, rfl⟩
  rw [ht] at hone hul
  replace hb := Lib.hid hb
  replace ht := Lib.hid ht
  replace hone := Lib.hid hone
  have n1 : (b != b) = false := by simp
  have n2 : (b == b) = true := by simp
  go_wp2_with fail
  refine (GlobHas_any g s (by omega) (by omega) w1).mono ?_
  rintro e w2 ⟨rfl, hB⟩
  replace hC := hC.trans (hB.mono hC.size)
  clear hB
  rw [hb.out]
  go_wp2_with fail
  refine (PathLast_any s (by omega) w2).mono ?_
  rintro e w3 ⟨rfl, hB⟩
  replace hC := hC.trans (hB.mono hC.size)
  clear hB
  rw [ht.out]
  go_wp2_with fail
  refine (specGlobHas_any g s (by omega) (by omega) w3).mono ?_
  rintro e w4 ⟨rfl, hB⟩
  replace hC := hC.trans (hB.mono hC.size)
  clear hB
  rw [hb.out]
  by_cases h1 : t.length = 1
  case neg =>
    have h1I : ((t.length : Int) != 1) = true := by simp; omega
    replace h1 := Lib.hid h1
    go_wp2_with fail
    refine (specGlobHas_any g s (by omega) (by omega) w4).mono ?_
    rintro e w5 ⟨rfl, hB⟩
    replace hC := hC.trans (hB.mono hC.size)
    clear hB
    rw [hb.out]
    go_wp2
    go_ret
    exact ⟨rfl, hC⟩
  obtain ⟨e1, e2, e3, e4, e5⟩ := hone.out h1
  have h1I : ((t.length : Int) != 1) = false := by rw [h1]; rfl
  replace h1 := Lib.hid h1
  replace e1 := Lib.hid e1
  replace e2 := Lib.hid e2
  replace e3 := Lib.hid e3
  replace e4 := Lib.hid e4
  replace e5 := Lib.hid e5
  go_wp2_with fail
  with_reducible refine (GlobHas_any (91 :: (t ++ [45, 93])) t (by first | omega | (simp; done) | (simp; omega)) (by omega) w4).mono ?_
  rintro e w5 ⟨rfl, hB⟩
  replace hC := hC.trans (hB.mono hC.size)
  clear hB
  rw [e1.out]
  go_wp2_with fail
  with_reducible refine (GlobHas_any (91 :: 33 :: (t ++ [93])) t (by first | omega | (simp; done) | (simp; omega)) (by omega) w5).mono ?_
  rintro e w6 ⟨rfl, hB⟩
  replace hC := hC.trans (hB.mono hC.size)
  clear hB
  rw [e2.out]
  go_wp2_with fail
  refine (GlobHas_any ([63]) t (by first | omega | (simp; done) | (simp; omega)) (by omega) w6).mono ?_
  rintro e w7 ⟨rfl, hB⟩
  replace hC := hC.trans (hB.mono hC.size)
  clear hB
  rw [e3.out]
  go_wp2_with fail
  refine (GlobHas_any ([63, 63]) t (by first | omega | (simp; done) | (simp; omega)) (by omega) w7).mono ?_
  rintro e w8 ⟨rfl, hB⟩
  replace hC := hC.trans (hB.mono hC.size)
  clear hB
  rw [e4.out]
  go_wp2_with fail
  with_reducible refine (GlobHas_any (t ++ [42]) t (by first | omega | (simp; done) | (simp; omega)) (by omega) w8).mono ?_
  rintro e w9 ⟨rfl, hB⟩
  replace hC := hC.trans (hB.mono hC.size)
  clear hB
  rw [e5.out]
  go_wp2
  go_ret
  exact ⟨rfl, hC⟩
end Go.Proofs.YtiibodelcfmnpaaDoor
