/-
  The law FnTreeMoveIn, walked.
-/
import Derived.Test.YtjihpbioofikcaaDoorMoveF
namespace Go.Proofs.YtjihpbioofikcaaDoor
open Go.RowKit
set_option linter.unusedVariables false
set_option linter.unusedSimpArgs false
attribute [local go_sem] mkB_size mkB_extract mkB_get mkB_append mkB_append_raw raw_append_mkB mkB_toList

set_option maxRecDepth 1000000 in
set_option maxHeartbeats 32000000 in
theorem law_FnTreeMoveIn (A0 : Option Addr) (n0 c0 : Nat) (w : World) (h0 : IsBytes w A0 n0 c0) :
    Calls Tryd.prog 13 #[.slice A0 n0 c0] w fun e w' => e = .returned (.bool true) ∧ Below w.heap.size w w' := by
  by_cases hn0 : n0 ≤ 1048576
  case neg =>
    go_enter Tryd.func13, Tryd.ntmps13
    go_wp2
    go_ret
    exact ⟨rfl, Below.refl _ _⟩
  go_enter Tryd.func13, Tryd.ntmps13
  go_wp2_with fail
  with_reducible refine (DrawTreeMove_any A0 n0 c0 w h0).mono ?_
  rintro e w1 ⟨es, g, c, s, t, hT, hs, ht, rfl, hO, hC⟩
  have hsm := dr_small hT.2 (by have := hT.1; omega)
  have hcap := hO.parts.2.2.1
  have hlo := hO.parts.2.1
  have hl17 := hT.1
  have hE := Lib.hid hO.parts.1.ents
  replace hsm := Lib.hid hsm
  replace hT := Lib.hid hT
  clear hO
  have hsl : s.length ≤ 100 := hs.1
  have htl : t.length ≤ 100 := ht.1
  obtain ⟨⟨fs, b⟩, hx⟩ : ∃ x, treeMove es s t = x := ⟨_, rfl⟩
  have hfl : fs.length ≤ 1048576 := by have := moveLen es s t; rw [hx] at this; exact this
  replace hx := Lib.hid hx
  go_wp2_with fail
  with_reducible refine (TreeMove_g hx.out g c w1 hE.out hsm.out hcap (by omega) (by omega)).mono ?_
  rintro e w2 ⟨hPA, hPc, rfl, hPO, hB⟩
  replace hC := hC.trans (hB.mono hC.size)
  replace hE := Lib.hid (hE.out.below hB hE.out.1)
  clear hB
  have hP := Lib.hid hPO
  clear hPO
  go_wp2_with fail
  with_reducible refine (specTreeMove_g hx.out g c w2 hE.out hsm.out hcap (by omega) (by omega)).mono ?_
  rintro e w3 ⟨hQA, hQc, rfl, hQO, hB⟩
  replace hC := hC.trans (hB.mono hC.size)
  replace hE := Lib.hid (hE.out.below hB hE.out.1)
  replace hP := Lib.hid (hP.out.below hB)
  clear hB
  have hQ := Lib.hid hQO
  clear hQO
  have hb1 : (b != b) = false := by simp
  have hb2 : (b == b) = true := by simp
  go_wp2_with fail
  with_reducible refine (jsTree_sl fs _ _ _ _ w3 hP.out.sl hQ.out.sl hfl).mono ?_
  rintro e w4 ⟨rfl, hB⟩
  replace hC := hC.trans (hB.mono hC.size)
  replace hE := Lib.hid (hE.out.below hB hE.out.1)
  replace hP := Lib.hid (hP.out.below hB)
  replace hQ := Lib.hid (hQ.out.below hB)
  clear hB
  go_wp2_with fail
  with_reducible refine (specTreeOk_any es g c w4 hE.out hsm.out).mono ?_
  rintro e w5 ⟨rfl, hB⟩
  replace hC := hC.trans (hB.mono hC.size)
  replace hE := Lib.hid (hE.out.below hB hE.out.1)
  replace hP := Lib.hid (hP.out.below hB)
  replace hQ := Lib.hid (hQ.out.below hB)
  clear hB
  rcases boolOf (treeOk es) with hok | hok
  · rw [hok.out]
    go_wp2_with fail
    with_reducible refine (jsTree_sl fs _ _ _ _ w5 hP.out.sl hQ.out.sl hfl).mono ?_
    rintro e w6 ⟨rfl, hB⟩
    replace hC := hC.trans (hB.mono hC.size)
    replace hE := Lib.hid (hE.out.below hB hE.out.1)
    replace hP := Lib.hid (hP.out.below hB)
    replace hQ := Lib.hid (hQ.out.below hB)
    clear hB
    go_wp2
    go_ret
    exact ⟨rfl, hC⟩
  rw [hok.out]
  have h1 := Lib.hid (treeMove_no (f := s) (t := s) hok.out (moveB_no4 (below_iff.2 (.inl rfl))))
  have h2 := Lib.hid (treeMove_no (f := s) (t := s ++ [47, 120]) hok.out (moveB_no4 (below_iff.2 (.inr ⟨[120], rfl⟩))))
  go_wp2_with fail
  with_reducible refine (TreeMove_g h1.out g c w5 hE.out hsm.out hcap (by omega) (by omega)).mono ?_
  rintro e w6 ⟨hRA, hRc, rfl, hRO, hB⟩
  replace hC := hC.trans (hB.mono hC.size)
  replace hE := Lib.hid (hE.out.below hB hE.out.1)
  replace hP := Lib.hid (hP.out.below hB)
  replace hQ := Lib.hid (hQ.out.below hB)
  clear hB
  have hR := Lib.hid hRO
  clear hRO
  have hcat : (mkB s).size + 2 ≤ 140737488355328 := by rw [mkB_size]; omega
  go_wp2_with fail
  with_reducible refine (TreeMove_g h2.out g c w6 hE.out hsm.out hcap (by omega) (by simp; omega)).mono ?_
  rintro e w7 ⟨hVA, hVc, rfl, hVO, hB⟩
  replace hC := hC.trans (hB.mono hC.size)
  replace hE := Lib.hid (hE.out.below hB hE.out.1)
  replace hP := Lib.hid (hP.out.below hB)
  replace hQ := Lib.hid (hQ.out.below hB)
  replace hR := Lib.hid (hR.out.below hB)
  clear hB
  have hV := Lib.hid hVO
  clear hVO
  go_wp2
  go_ret
  exact ⟨rfl, hC⟩
end Go.Proofs.YtjihpbioofikcaaDoor
