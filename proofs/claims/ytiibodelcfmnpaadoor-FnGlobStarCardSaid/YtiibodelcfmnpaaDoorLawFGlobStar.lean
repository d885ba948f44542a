/-
  The law FnGlobStar, walked.
-/
import Derived.Test.YtiibodelcfmnpaaDoorGlobL
import Derived.Test.YtiibodelcfmnpaaDoorGlobY
import Derived.Test.YtiibodelcfmnpaaDoorPathF
namespace Go.Proofs.YtiibodelcfmnpaaDoor
open Go.RowKit
set_option linter.unusedVariables false
set_option linter.unusedSimpArgs false
attribute [local go_sem] mkB_size mkB_extract mkB_get mkB_append mkB_append_raw raw_append_mkB mkB_toList

set_option maxRecDepth 1000000 in
set_option maxHeartbeats 32000000 in
theorem law_FnGlobStar (A0 : Option Addr) (n0 c0 : Nat) (w : World) (h0 : IsBytes w A0 n0 c0) :
    Calls Tryd.prog 4 #[.slice A0 n0 c0] w fun e w' => e = .returned (.bool true) ∧ Below w.heap.size w w' := by
  by_cases hn0 : n0 ≤ 1048576
  case neg =>
    go_enter Tryd.func4, Tryd.ntmps4
    go_wp2
    go_ret
    exact ⟨rfl, Below.refl _ _⟩
  go_enter Tryd.func4, Tryd.ntmps4
  go_wp2_with fail
  with_reducible refine (DrawPathOk_any A0 n0 c0 w h0).mono ?_
  rintro e w1 ⟨s, hs, rfl, hC⟩
  have hsl := drawn_short s hs
  have hsz : (mkB s).size ≤ 140737488355328 := by rw [mkB_size]; omega
  have hul := up_short s hs
  rcases boolOf (pathOk s) with hok | hok
  · skip
    go_wp2_with fail
    refine (PathOk_any (mkB s) hsz w1).mono ?_
    rintro e w2 ⟨rfl, hB⟩
    replace hC := hC.trans (hB.mono hC.size)
    clear hB
    rw [mkB_data]
    rw [hok.out]
    go_wp2_with fail
    refine (specPathOk_any s (by omega) w2).mono ?_
    rintro e w3 ⟨rfl, hB⟩
    replace hC := hC.trans (hB.mono hC.size)
    clear hB
    rw [hok.out]
    go_wp2_with fail
    refine (specPathOk_any s (by omega) w3).mono ?_
    rintro e w4 ⟨rfl, hB⟩
    replace hC := hC.trans (hB.mono hC.size)
    clear hB
    rw [hok.out]
    go_wp2
    go_ret
    exact ⟨rfl, hC⟩
  go_wp2_with fail
  refine (PathOk_any (mkB s) hsz w1).mono ?_
  rintro e w2 ⟨rfl, hB⟩
  replace hC := hC.trans (hB.mono hC.size)
  clear hB
  rw [mkB_data]
  rw [hok.out]
  go_wp2_with fail
  refine (specPathOk_any s (by omega) w2).mono ?_
  rintro e w3 ⟨rfl, hB⟩
  replace hC := hC.trans (hB.mono hC.size)
  clear hB
  rw [hok.out]
  obtain ⟨u, hu⟩ : ∃ u, pathUp s = u := ⟨_, rfl⟩
  obtain ⟨hul1, hul2⟩ := hul
  have ht := star_top s hs hok.out
  have hi := star_in s hs hok.out
  rw [hu] at ht hi hul1
  replace hu := Lib.hid hu
  replace ht := Lib.hid ht
  replace hi := Lib.hid hi
  go_wp2_with fail
  refine (PathUp_any s (by omega) w3).mono ?_
  rintro e w4 ⟨rfl, hB⟩
  replace hC := hC.trans (hB.mono hC.size)
  clear hB
  rw [hu.out]
  by_cases hu0 : u = []
  · subst hu0
    obtain ⟨h1, h2⟩ := ht.out rfl
    replace h1 := Lib.hid h1
    replace h2 := Lib.hid h2
    go_wp2_with fail
    refine (GlobHas_any ([42]) s (by first | omega | (simp; done) | (simp; omega)) (by omega) w4).mono ?_
    rintro e w5 ⟨rfl, hB⟩
    replace hC := hC.trans (hB.mono hC.size)
    clear hB
    rw [h1.out]
    go_wp2_with fail
    refine (GlobHas_any ([42, 47, 42]) s (by first | omega | (simp; done) | (simp; omega)) (by omega) w5).mono ?_
    rintro e w6 ⟨rfl, hB⟩
    replace hC := hC.trans (hB.mono hC.size)
    clear hB
    rw [h2.out]
    go_wp2
    go_ret
    exact ⟨rfl, hC⟩
  obtain ⟨h1, h2, h3, h4⟩ := hi.out hu0
  have hue : (u == []) = false := by simpa using hu0
  replace h1 := Lib.hid h1
  replace h2 := Lib.hid h2
  replace h3 := Lib.hid h3
  replace h4 := Lib.hid h4
  replace hu0 := Lib.hid hu0
  have huI : ¬ (40 : Int) < (u.length : Int) + 3 := by omega
  go_wp2_with fail
  refine (GlobHas_any ([42]) s (by first | omega | (simp; done) | (simp; omega)) (by omega) w4).mono ?_
  rintro e w5 ⟨rfl, hB⟩
  replace hC := hC.trans (hB.mono hC.size)
  clear hB
  rw [h1.out]
  go_wp2_with fail
  refine (GlobHas_any ([42, 42, 47, 42]) s (by first | omega | (simp; done) | (simp; omega)) (by omega) w5).mono ?_
  rintro e w6 ⟨rfl, hB⟩
  replace hC := hC.trans (hB.mono hC.size)
  clear hB
  rw [h2.out]
  go_wp2_with fail
  with_reducible refine (GlobHas_any (u ++ [47, 42]) s (by first | omega | (simp; done) | (simp; omega)) (by omega) w6).mono ?_
  rintro e w7 ⟨rfl, hB⟩
  replace hC := hC.trans (hB.mono hC.size)
  clear hB
  rw [h3.out]
  go_wp2_with fail
  with_reducible refine (GlobHas_any (u ++ [47, 42, 42]) s (by first | omega | (simp; done) | (simp; omega)) (by omega) w7).mono ?_
  rintro e w8 ⟨rfl, hB⟩
  replace hC := hC.trans (hB.mono hC.size)
  clear hB
  rw [h4.out]
  go_wp2
  go_ret
  exact ⟨rfl, hC⟩
end Go.Proofs.YtiibodelcfmnpaaDoor
