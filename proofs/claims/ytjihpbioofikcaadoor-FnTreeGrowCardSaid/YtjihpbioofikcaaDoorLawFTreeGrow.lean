/-
  The law FnTreeGrow, walked.
-/
import Derived.Test.YtjihpbioofikcaaDoorJsT
import Derived.Test.YtjihpbioofikcaaDoorPutC
import Derived.Test.YtjihpbioofikcaaDoorDrawW
import Derived.Test.YtjihpbioofikcaaDoorGrowP
namespace Go.Proofs.YtjihpbioofikcaaDoor
open Go.RowKit
set_option linter.unusedVariables false
set_option linter.unusedSimpArgs false
attribute [local go_sem] mkB_size mkB_extract mkB_get mkB_append mkB_append_raw raw_append_mkB mkB_toList

theorem put_small {es fs : List En} {e : En} {b : Bool} (hok : treeOk es = true) (hsm : Small es) (h : putL es e = (fs, b)) (hp : e.path.length ≤ 1048576) (ht : e.text.length ≤ 1048576) : Small fs := by
  cases b with
  | false => rw [putL_false h]; exact hsm
  | true =>
    obtain ⟨_, _, hm, hl⟩ := putL_ok hok h
    have := (treeOk_is hok).len
    refine ⟨by omega, fun i hi => ?_⟩
    rcases (hm _).1 (List.getElem_mem hi) with h1 | ⟨h1, _⟩
    · rw [h1]; exact ⟨hp, ht⟩
    · obtain ⟨j, hj, h2⟩ := List.getElem_of_mem h1
      rw [← h2]; exact hsm.2 j hj
theorem put_ne {es fs : List En} {e : En} (h : treeOk es = true) (hp : putL es e = (fs, true)) : fs ≠ [] := fun k => by
  have := ((putL_ok h hp).2.2.1 e).2 (.inl rfl)
  rw [k] at this; cases this
set_option maxRecDepth 1000000 in
set_option maxHeartbeats 32000000 in
theorem law_FnTreeGrow (A0 : Option Addr) (n0 c0 : Nat) (w : World) (h0 : IsBytes w A0 n0 c0) :
    Calls Tryd.prog 12 #[.slice A0 n0 c0] w fun e w' => e = .returned (.bool true) ∧ Below w.heap.size w w' := by
  by_cases hn0 : n0 ≤ 1048576
  case neg =>
    go_enter Tryd.func12, Tryd.ntmps12
    go_wp2
    go_ret
    exact ⟨rfl, Below.refl _ _⟩
  go_enter Tryd.func12, Tryd.ntmps12
  go_wp2_with fail
  with_reducible refine (DrawTreePut_any A0 n0 c0 w h0).mono ?_
  rintro e w1 ⟨es, g, c, ⟨p0, k0, m0, t0⟩, hT, hx, rfl, hO, hC⟩
  have hsm := dr_small hT.2 (by have := hT.1; omega)
  have hcap := hO.parts.2.2.1
  have hlo := hO.parts.2.1
  have hl17 := hT.1
  have hE := Lib.hid hO.parts.1.ents
  replace hsm := Lib.hid hsm
  replace hT := Lib.hid hT
  clear hO
  clear hx
  go_wp2_with fail
  obtain ⟨w2, hW⟩ : ∃ X, w1.alloc (.cells #[.string (mkB p0), .int .i64 k0, .int .i64 m0, .string (mkB t0)] 31) = X := ⟨_, rfl⟩
  have hB : Below w1.heap.size w1 w2 := by rw [← hW]; exact (Below.refl _ _).alloc (Nat.le_refl _) _
  obtain ⟨x4b, hx4b⟩ : ∃ x, w1.heap.size = x := ⟨_, rfl⟩
  have x4 : Box4 w2 x4b 31 (.string (mkB p0)) (.int .i64 k0) (.int .i64 m0) (.string (mkB t0)) := by rw [← hW, ← hx4b]; exact Box4.new _ _ _ _ _ _
  replace x4 := Lib.hid x4
  replace hC := hC.trans (hB.mono hC.size)
  replace hE := Lib.hid (hE.out.below hB hE.out.1)
  rw [hW, hx4b]
  clear hW hB hx4b
  rcases boolOf (treeOk es) with hok | hok
  · skip
    with_reducible refine (TreeOk_any es g c w2 hE.out hsm.out hcap).mono ?_
    rintro e w3 ⟨rfl, hB⟩
    replace hC := hC.trans (hB.mono hC.size)
    replace hE := Lib.hid (hE.out.below hB hE.out.1)
    replace x4 := Lib.hid (x4.out.below hB x4.out.lt)
    clear hB
    rw [hok.out]
    go_wp2_with fail
    with_reducible refine (specTreeOk_any es g c w3 hE.out hsm.out).mono ?_
    rintro e w4 ⟨rfl, hB⟩
    replace hC := hC.trans (hB.mono hC.size)
    replace hE := Lib.hid (hE.out.below hB hE.out.1)
    replace x4 := Lib.hid (x4.out.below hB x4.out.lt)
    clear hB
    rw [hok.out]
    go_wp2_with fail
    with_reducible refine (specTreeOk_any es g c w4 hE.out hsm.out).mono ?_
    rintro e w5 ⟨rfl, hB⟩
    replace hC := hC.trans (hB.mono hC.size)
    replace hE := Lib.hid (hE.out.below hB hE.out.1)
    replace x4 := Lib.hid (x4.out.below hB x4.out.lt)
    clear hB
    rw [hok.out]
    go_wp2
    go_ret
    exact ⟨rfl, hC⟩
  with_reducible refine (TreeOk_any es g c w2 hE.out hsm.out hcap).mono ?_
  rintro e w3 ⟨rfl, hB⟩
  replace hC := hC.trans (hB.mono hC.size)
  replace hE := Lib.hid (hE.out.below hB hE.out.1)
  replace x4 := Lib.hid (x4.out.below hB x4.out.lt)
  clear hB
  rw [hok.out]
  go_wp2_with fail
  with_reducible refine (specTreeOk_any es g c w3 hE.out hsm.out).mono ?_
  rintro e w4 ⟨rfl, hB⟩
  replace hC := hC.trans (hB.mono hC.size)
  replace hE := Lib.hid (hE.out.below hB hE.out.1)
  replace x4 := Lib.hid (x4.out.below hB x4.out.lt)
  clear hB
  rw [hok.out]
  by_cases hl : es.length + 3 ≤ 16
  case neg =>
    have hlI : (16 : Int) < (es.length : Int) + 3 := by omega
    go_wp2_with fail
    with_reducible refine (specTreeOk_any es g c w4 hE.out hsm.out).mono ?_
    rintro e w5 ⟨rfl, hB⟩
    replace hC := hC.trans (hB.mono hC.size)
    replace hE := Lib.hid (hE.out.below hB hE.out.1)
    replace x4 := Lib.hid (x4.out.below hB x4.out.lt)
    clear hB
    rw [hok.out]
    go_wp2
    go_ret
    exact ⟨rfl, hC⟩
  have hlI : ¬ (16 : Int) < (es.length : Int) + 3 := by omega
  obtain ⟨f1, f3, f4, q1, q2, q3, q4, k1, k3, k4, hfo, hdr⟩ := grow_plain hok.out hT.out.2 hl
  have s1 := Lib.hid (put_small hok.out hsm.out q1 (by simp) (by simp))
  have s3 := Lib.hid (put_small k1 s1.out q3 (by simp) (by simp))
  have s4 := Lib.hid (put_small k3 s3.out q4 (by simp) (by simp))
  have n1 := Lib.hid (put_ne hok.out q1)
  have n3 := Lib.hid (put_ne k1 q3)
  have n4 := Lib.hid (put_ne k3 q4)
  rw [← treePut_ok hok.out] at q1 q2
  rw [← treePut_ok k1] at q3
  rw [← treePut_ok k3] at q4
  replace q1 := Lib.hid q1
  replace q2 := Lib.hid q2
  replace q3 := Lib.hid q3
  replace q4 := Lib.hid q4
  replace hdr := Lib.hid hdr
  have hfv : entV (treeFollow f4 fb) = .tuple #[.agg #[.string { data := #[102, 114, 101, 115, 104] }, .int .i64 1, .int .i64 7, .string { data := #[] }], .bool true] := by rw [hfo]; rfl
  replace hfv := Lib.hid hfv
  clear hfo k1 k3 k4
  go_wp2_with fail
  have hcl := TreePut_c es ⟨fr, 1, 7, []⟩ g c w4 hE.out hsm.out hcap (by simp) (by simp)
  rw [q1.out] at hcl
  refine hcl.mono ?_
  rintro e w5 ⟨A1, c1, rfl, hOO, hB⟩
  clear hcl
  replace hC := hC.trans (hB.mono hC.size)
  replace hE := Lib.hid (hE.out.below hB hE.out.1)
  replace x4 := Lib.hid (x4.out.below hB x4.out.lt)
  clear hB
  rcases hOO with ⟨_, _, h⟩ | ⟨g1, rfl, hR⟩
  · exact absurd h n1.out
  have cap1 := hR.parts.2.2.1
  have hE1 := Lib.hid hR.parts.1.ents
  clear hR
  go_wp2_with fail
  have hcl := TreePut_c es ⟨fa, 2, 0, []⟩ g c w5 hE.out hsm.out hcap (by simp) (by simp)
  rw [q2.out] at hcl
  refine hcl.mono ?_
  rintro e w6 ⟨A2, c2, rfl, hOO, hB⟩
  clear hcl
  replace hC := hC.trans (hB.mono hC.size)
  replace hE := Lib.hid (hE.out.below hB hE.out.1)
  replace x4 := Lib.hid (x4.out.below hB x4.out.lt)
  replace hE1 := Lib.hid (hE1.out.below hB hE1.out.1)
  clear hB
  clear hOO
  go_wp2_with fail
  have hcl := TreePut_c f1 ⟨fa, 1, 0, []⟩ g1 c1 w6 hE1.out s1.out cap1 (by simp) (by simp)
  rw [q3.out] at hcl
  refine hcl.mono ?_
  rintro e w7 ⟨A3, c3, rfl, hOO, hB⟩
  clear hcl
  replace hC := hC.trans (hB.mono hC.size)
  replace hE := Lib.hid (hE.out.below hB hE.out.1)
  replace x4 := Lib.hid (x4.out.below hB x4.out.lt)
  replace hE1 := Lib.hid (hE1.out.below hB hE1.out.1)
  clear hB
  rcases hOO with ⟨_, _, h⟩ | ⟨g3, rfl, hR⟩
  · exact absurd h n3.out
  have cap3 := hR.parts.2.2.1
  have hE3 := Lib.hid hR.parts.1.ents
  clear hR
  go_wp2_with fail
  have hcl := TreePut_c f3 ⟨fb, 3, 0, fr⟩ g3 c3 w7 hE3.out s3.out cap3 (by simp) (by simp)
  rw [q4.out] at hcl
  refine hcl.mono ?_
  rintro e w8 ⟨A4, c4, rfl, hOO, hB⟩
  clear hcl
  replace hC := hC.trans (hB.mono hC.size)
  replace hE := Lib.hid (hE.out.below hB hE.out.1)
  replace x4 := Lib.hid (x4.out.below hB x4.out.lt)
  replace hE1 := Lib.hid (hE1.out.below hB hE1.out.1)
  replace hE3 := Lib.hid (hE3.out.below hB hE3.out.1)
  clear hB
  rcases hOO with ⟨_, _, h⟩ | ⟨g4, rfl, hR⟩
  · exact absurd h n4.out
  have cap4 := hR.parts.2.2.1
  have hE4 := Lib.hid hR.parts.1.ents
  clear hR
  go_wp2_with fail
  refine (TreeFollow_any f4 fb g4 c4 w8 hE4.out s4.out cap4 (by simp)).mono ?_
  rintro e w9 ⟨rfl, hB⟩
  replace hC := hC.trans (hB.mono hC.size)
  replace hE := Lib.hid (hE.out.below hB hE.out.1)
  replace x4 := Lib.hid (x4.out.below hB x4.out.lt)
  replace hE1 := Lib.hid (hE1.out.below hB hE1.out.1)
  replace hE3 := Lib.hid (hE3.out.below hB hE3.out.1)
  replace hE4 := Lib.hid (hE4.out.below hB hE4.out.1)
  clear hB
  rw [hfv.out]
  go_wp2_with fail
  obtain ⟨w10, hW⟩ : ∃ X, w9.alloc (.cells #[.string { data := #[102, 114, 101, 115, 104] }, .int .i64 1, .int .i64 7, .string { data := #[] }] 31) = X := ⟨_, rfl⟩
  have hB : Below w9.heap.size w9 w10 := by rw [← hW]; exact (Below.refl _ _).alloc (Nat.le_refl _) _
  obtain ⟨x12b, hx12b⟩ : ∃ x, w9.heap.size = x := ⟨_, rfl⟩
  have x12 : Box4 w10 x12b 31 (.string { data := #[102, 114, 101, 115, 104] }) (.int .i64 1) (.int .i64 7) (.string { data := #[] }) := by rw [← hW, ← hx12b]; exact Box4.new _ _ _ _ _ _
  replace x12 := Lib.hid x12
  replace hC := hC.trans (hB.mono hC.size)
  replace hE := Lib.hid (hE.out.below hB hE.out.1)
  replace x4 := Lib.hid (x4.out.below hB x4.out.lt)
  replace hE1 := Lib.hid (hE1.out.below hB hE1.out.1)
  replace hE3 := Lib.hid (hE3.out.below hB hE3.out.1)
  replace hE4 := Lib.hid (hE4.out.below hB hE4.out.1)
  rw [hW, hx12b]
  clear hW hB hx12b
  have hcl := TreeDrop_any f4 fr g4 c4 w10 hE4.out s4.out cap4 (by simp)
  rw [hdr.out] at hcl
  refine hcl.mono ?_
  rintro e w11 ⟨A5, c5, rfl, hOO, hB⟩
  clear hcl
  replace hC := hC.trans (hB.mono hC.size)
  replace hE := Lib.hid (hE.out.below hB hE.out.1)
  replace x4 := Lib.hid (x4.out.below hB x4.out.lt)
  replace hE1 := Lib.hid (hE1.out.below hB hE1.out.1)
  replace hE3 := Lib.hid (hE3.out.below hB hE3.out.1)
  replace hE4 := Lib.hid (hE4.out.below hB hE4.out.1)
  replace x12 := Lib.hid (x12.out.below hB x12.out.lt)
  clear hB
  have hD := Lib.hid hOO
  clear hOO
  have x12c0 := x12.out.cell0
  have x12c1 := x12.out.cell1
  have x12c2 := x12.out.cell2
  have x12c3 := x12.out.cell3
  go_wp2_with fail
  clear x12c0 x12c1 x12c2 x12c3
  with_reducible refine (jsTree_sl es _ _ _ _ w11 hD.out.sl (SlE.of hE.out) (by omega)).mono ?_
  rintro e w12 ⟨rfl, hB⟩
  replace hC := hC.trans (hB.mono hC.size)
  replace hE := Lib.hid (hE.out.below hB hE.out.1)
  replace x4 := Lib.hid (x4.out.below hB x4.out.lt)
  replace hE1 := Lib.hid (hE1.out.below hB hE1.out.1)
  replace hE3 := Lib.hid (hE3.out.below hB hE3.out.1)
  replace hE4 := Lib.hid (hE4.out.below hB hE4.out.1)
  replace x12 := Lib.hid (x12.out.below hB x12.out.lt)
  replace hD := Lib.hid (hD.out.below hB)
  clear hB
  go_wp2
  go_ret
  exact ⟨rfl, hC⟩
end Go.Proofs.YtjihpbioofikcaaDoor
