/-
  The law FnTreePutDrop, walked.
-/
import Derived.Test.YtjihpbioofikcaaDoorJsT
import Derived.Test.YtjihpbioofikcaaDoorPutC
import Derived.Test.YtjihpbioofikcaaDoorDrawW
namespace Go.Proofs.YtjihpbioofikcaaDoor
open Go.RowKit
set_option linter.unusedVariables false
set_option linter.unusedSimpArgs false
attribute [local go_sem] mkB_size mkB_extract mkB_get mkB_append mkB_append_raw raw_append_mkB mkB_toList

theorem InE.posD {w : World} {A : Option Addr} {c : Nat} {es : List En} (h : InE w A c es) {k : Nat} (hk : k < es.length) : ∃ g, A = some ⟨g, 0, none⟩ ∧ Ents w g es ∧ es.length ≤ c := by
  rcases h with ⟨_, _, h⟩ | h
  · rw [h] at hk; simp at hk
  · exact h
theorem put_small {es fs : List En} {e : En} {b : Bool} (hok : treeOk es = true) (hsm : Small es) (h : putL es e = (fs, b)) (hp : e.path.length ≤ 1048576) (ht : e.text.length ≤ 1048576) : Small fs := by
  cases b with
  | false => rw [putL_false h]; exact hsm
  | true =>
    obtain ⟨_, _, hm, hl⟩ := putL_ok hok h
    have := (treeOk_is hok).len
    refine ⟨by omega, fun i hi => ?_⟩
    rcases (hm _).1 (List.getElem_mem hi) with h1 | ⟨h1, _⟩
    · rw [h1]; exact ⟨hp, ht⟩
    · obtain ⟨j, hj, h2⟩ := List.getElem_of_mem h1
      rw [← h2]; exact hsm.2 j hj
set_option maxRecDepth 1000000 in
set_option maxHeartbeats 32000000 in
theorem law_FnTreePutDrop (A0 : Option Addr) (n0 c0 : Nat) (w : World) (h0 : IsBytes w A0 n0 c0) :
    Calls Tryd.prog 10 #[.slice A0 n0 c0] w fun e w' => e = .returned (.bool true) ∧ Below w.heap.size w w' := by
  by_cases hn0 : n0 ≤ 1048576
  case neg =>
    go_enter Tryd.func10, Tryd.ntmps10
    go_wp2
    go_ret
    exact ⟨rfl, Below.refl _ _⟩
  go_enter Tryd.func10, Tryd.ntmps10
  go_wp2_with fail
  with_reducible refine (DrawTreePut_any A0 n0 c0 w h0).mono ?_
  rintro e w1 ⟨es, g, c, ⟨p0, k0, m0, t0⟩, hT, hx, rfl, hO, hC⟩
  have hsm := dr_small hT.2 (by have := hT.1; omega)
  have hcap := hO.parts.2.2.1
  have hlo := hO.parts.2.1
  have hl17 := hT.1
  have hE := Lib.hid hO.parts.1.ents
  replace hsm := Lib.hid hsm
  replace hT := Lib.hid hT
  clear hO
  have hpl : p0.length ≤ 1048576 := by have := hx.1.1; simp only at this; omega
  have htl : t0.length ≤ 1048576 := by have := hx.2.1; simp only at this; omega
  clear hx
  obtain ⟨⟨fs, b⟩, hpt⟩ : ∃ y, treePut es ⟨p0, k0, m0, t0⟩ = y := ⟨_, rfl⟩
  have hfl : fs.length ≤ 1048576 := by have := treePut_len es ⟨p0, k0, m0, t0⟩; rw [hpt] at this; simp only at this; omega
  replace hpt := Lib.hid hpt
  have hBn : Below w1.heap.size w1 (w1.alloc (.cells #[.string (mkB p0), .int .i64 k0, .int .i64 m0, .string (mkB t0)] 31)) := (Below.refl _ _).alloc (Nat.le_refl _) _
  have hnn := Box4.new w1 31 (.string (mkB p0)) (.int .i64 k0) (.int .i64 m0) (.string (mkB t0))
  have nwc0 := hnn.cell0
  have nwc1 := hnn.cell1
  have nwc2 := hnn.cell2
  have nwc3 := hnn.cell3
  clear hnn hBn
  go_wp2_with fail
  clear nwc0 nwc1 nwc2 nwc3
  obtain ⟨w2, hW⟩ : ∃ X, w1.alloc (.cells #[.string (mkB p0), .int .i64 k0, .int .i64 m0, .string (mkB t0)] 31) = X := ⟨_, rfl⟩
  have hB : Below w1.heap.size w1 w2 := by rw [← hW]; exact (Below.refl _ _).alloc (Nat.le_refl _) _
  obtain ⟨x4b, hx4b⟩ : ∃ x, w1.heap.size = x := ⟨_, rfl⟩
  have x4 : Box4 w2 x4b 31 (.string (mkB p0)) (.int .i64 k0) (.int .i64 m0) (.string (mkB t0)) := by rw [← hW, ← hx4b]; exact Box4.new _ _ _ _ _ _
  replace x4 := Lib.hid x4
  replace hC := hC.trans (hB.mono hC.size)
  replace hE := Lib.hid (hE.out.below hB hE.out.1)
  rw [hW, hx4b]
  clear hW hB hx4b
  have hcl := TreePut_c es ⟨p0, k0, m0, t0⟩ g c w2 hE.out hsm.out hcap hpl htl
  rw [hpt.out] at hcl
  refine hcl.mono ?_
  rintro e w3 ⟨A2, c2, rfl, hO2, hB⟩
  clear hcl
  replace hC := hC.trans (hB.mono hC.size)
  replace hE := Lib.hid (hE.out.below hB hE.out.1)
  replace x4 := Lib.hid (x4.out.below hB x4.out.lt)
  clear hB
  have hP := Lib.hid hO2.ine
  clear hO2
  have x4c0 := x4.out.cell0
  have x4c1 := x4.out.cell1
  have x4c2 := x4.out.cell2
  have x4c3 := x4.out.cell3
  go_wp2_with fail
  clear x4c0 x4c1 x4c2 x4c3
  have hcl := specTreePut_any es ⟨p0, k0, m0, t0⟩ g c w3 hE.out hsm.out hcap hpl htl
  rw [hpt.out] at hcl
  refine hcl.mono ?_
  rintro e w4 ⟨A3, c3, rfl, hO3, hB⟩
  clear hcl
  replace hC := hC.trans (hB.mono hC.size)
  replace hE := Lib.hid (hE.out.below hB hE.out.1)
  replace x4 := Lib.hid (x4.out.below hB x4.out.lt)
  replace hP := Lib.hid (hP.out.below hB)
  clear hB
  have hQ := Lib.hid hO3
  clear hO3
  cases b with
  | false =>
    go_wp2_with fail
    with_reducible refine (jsTree_sl fs _ _ _ _ w4 hP.out.sl hQ.out.sl hfl).mono ?_
    rintro e w5 ⟨rfl, hB⟩
    replace hC := hC.trans (hB.mono hC.size)
    replace hE := Lib.hid (hE.out.below hB hE.out.1)
    replace x4 := Lib.hid (x4.out.below hB x4.out.lt)
    replace hP := Lib.hid (hP.out.below hB)
    replace hQ := Lib.hid (hQ.out.below hB)
    clear hB
    go_wp2_with fail
    with_reducible refine (jsTree_sl fs _ _ _ _ w5 hP.out.sl hQ.out.sl hfl).mono ?_
    rintro e w6 ⟨rfl, hB⟩
    replace hC := hC.trans (hB.mono hC.size)
    replace hE := Lib.hid (hE.out.below hB hE.out.1)
    replace x4 := Lib.hid (x4.out.below hB x4.out.lt)
    replace hP := Lib.hid (hP.out.below hB)
    replace hQ := Lib.hid (hQ.out.below hB)
    clear hB
    go_wp2
    go_ret
    exact ⟨rfl, hC⟩
  | true =>
    have hok : treeOk es = true := by
      cases h : treeOk es with
      | true => rfl
      | false =>
        have h2 := hpt.out
        rw [treePut_bad h] at h2
        cases h2
    have hput : putL es ⟨p0, k0, m0, t0⟩ = (fs, true) := by rw [← treePut_ok hok]; exact hpt.out
    have hfsm := Lib.hid (put_small hok hsm.out hput hpl htl)
    obtain ⟨hokf, hthf, hback⟩ := put_drop hok hput
    obtain ⟨⟨p1, k1, m1, t1⟩, b1, hf1, hbt1, hbf1⟩ := entV_shape (treeGet es p0)
    simp only at hf1
    rw [treeGet_ok hok] at hbf1
    simp only at hthf hback
    have hth2 := there_iff.1 hthf
    have hdr := Lib.hid (drop_ok hokf hthf)
    replace hf1 := Lib.hid hf1
    replace hbf1 := Lib.hid hbf1
    replace hback := Lib.hid hback
    replace hth2 := Lib.hid hth2
    clear hbt1 hput hokf hthf hok
    go_wp2_with fail
    with_reducible refine (jsTree_sl fs _ _ _ _ w4 hP.out.sl hQ.out.sl hfl).mono ?_
    rintro e w5 ⟨rfl, hB⟩
    replace hC := hC.trans (hB.mono hC.size)
    replace hE := Lib.hid (hE.out.below hB hE.out.1)
    replace x4 := Lib.hid (x4.out.below hB x4.out.lt)
    replace hP := Lib.hid (hP.out.below hB)
    replace hQ := Lib.hid (hQ.out.below hB)
    clear hB
    have x4c0 := x4.out.cell0
    have x4c1 := x4.out.cell1
    have x4c2 := x4.out.cell2
    have x4c3 := x4.out.cell3
    go_wp2_with fail
    clear x4c0 x4c1 x4c2 x4c3
    with_reducible refine (TreeGet_any es p0 g c w5 hE.out hsm.out hcap hpl).mono ?_
    rintro e w6 ⟨rfl, hB⟩
    replace hC := hC.trans (hB.mono hC.size)
    replace hE := Lib.hid (hE.out.below hB hE.out.1)
    replace x4 := Lib.hid (x4.out.below hB x4.out.lt)
    replace hP := Lib.hid (hP.out.below hB)
    replace hQ := Lib.hid (hQ.out.below hB)
    clear hB
    rw [hf1.out]
    have hBn : Below w6.heap.size w6 (w6.alloc (.cells #[.string (mkB p1), .int .i64 k1, .int .i64 m1, .string (mkB t1)] 31)) := (Below.refl _ _).alloc (Nat.le_refl _) _
    have hnn := x4.out.below hBn x4.out.lt
    have x4c0 := hnn.cell0
    have x4c1 := hnn.cell1
    have x4c2 := hnn.cell2
    have x4c3 := hnn.cell3
    clear hnn
    have hnn := Box4.new w6 31 (.string (mkB p1)) (.int .i64 k1) (.int .i64 m1) (.string (mkB t1))
    have nwc0 := hnn.cell0
    have nwc1 := hnn.cell1
    have nwc2 := hnn.cell2
    have nwc3 := hnn.cell3
    clear hnn hBn
    go_wp2_with fail
    clear x4c0 x4c1 x4c2 x4c3 nwc0 nwc1 nwc2 nwc3
    obtain ⟨w7, hW⟩ : ∃ X, w6.alloc (.cells #[.string (mkB p1), .int .i64 k1, .int .i64 m1, .string (mkB t1)] 31) = X := ⟨_, rfl⟩
    have hB : Below w6.heap.size w6 w7 := by rw [← hW]; exact (Below.refl _ _).alloc (Nat.le_refl _) _
    obtain ⟨x9b, hx9b⟩ : ∃ x, w6.heap.size = x := ⟨_, rfl⟩
    have x9 : Box4 w7 x9b 31 (.string (mkB p1)) (.int .i64 k1) (.int .i64 m1) (.string (mkB t1)) := by rw [← hW, ← hx9b]; exact Box4.new _ _ _ _ _ _
    replace x9 := Lib.hid x9
    replace hC := hC.trans (hB.mono hC.size)
    replace hE := Lib.hid (hE.out.below hB hE.out.1)
    replace x4 := Lib.hid (x4.out.below hB x4.out.lt)
    replace hP := Lib.hid (hP.out.below hB)
    replace hQ := Lib.hid (hQ.out.below hB)
    rw [hW, hx9b]
    clear hW hB hx9b
    obtain ⟨hk2, _⟩ := hth2.out
    obtain ⟨g2, rfl, hE2, hcap2⟩ := hP.out.posD hk2
    have hcl := TreeDrop_any fs p0 g2 c2 w7 hE2 hfsm.out hcap2 hpl
    rw [hdr.out] at hcl
    clear hE2
    refine hcl.mono ?_
    rintro e w8 ⟨A5, c5, rfl, hO5, hB⟩
    clear hcl
    replace hC := hC.trans (hB.mono hC.size)
    replace hE := Lib.hid (hE.out.below hB hE.out.1)
    replace x4 := Lib.hid (x4.out.below hB x4.out.lt)
    replace hP := Lib.hid (hP.out.below hB)
    replace hQ := Lib.hid (hQ.out.below hB)
    replace x9 := Lib.hid (x9.out.below hB x9.out.lt)
    clear hB
    have hD := Lib.hid hO5
    clear hO5
    cases b1 with
    | true =>
      simp only
      go_wp2
      go_ret
      exact ⟨rfl, hC⟩
    | false =>
      have hde := hback.out (hbf1.out rfl)
      rw [hde] at hD
      simp only [hde]
      clear hde
      go_wp2_with fail
      with_reducible refine (jsTree_sl es _ _ _ _ w8 hD.out.sl (SlE.of hE.out) (by omega)).mono ?_
      rintro e w9 ⟨rfl, hB⟩
      replace hC := hC.trans (hB.mono hC.size)
      replace hE := Lib.hid (hE.out.below hB hE.out.1)
      replace x4 := Lib.hid (x4.out.below hB x4.out.lt)
      replace hP := Lib.hid (hP.out.below hB)
      replace hQ := Lib.hid (hQ.out.below hB)
      replace x9 := Lib.hid (x9.out.below hB x9.out.lt)
      replace hD := Lib.hid (hD.out.below hB)
      clear hB
      go_wp2
      go_ret
      exact ⟨rfl, hC⟩
end Go.Proofs.YtjihpbioofikcaaDoor
