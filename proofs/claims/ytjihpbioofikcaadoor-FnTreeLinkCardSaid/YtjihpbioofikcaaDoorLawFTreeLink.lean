/-
  The law FnTreeLink, walked.
-/
import Derived.Test.YtjihpbioofikcaaDoorLawD
import Derived.Test.YtjihpbioofikcaaDoorPutC
import Derived.Test.YtjihpbioofikcaaDoorPutK
namespace Go.Proofs.YtjihpbioofikcaaDoor
open Go.RowKit
set_option linter.unusedVariables false
set_option linter.unusedSimpArgs false
attribute [local go_sem] mkB_size mkB_extract mkB_get mkB_append mkB_append_raw raw_append_mkB mkB_toList

theorem fresh_no {es : List En} (h : ∀ e ∈ es, DrE e) : ∀ e ∈ es, e.path ≠ [102, 114, 101, 115, 104] ∧ e.text ≠ [102, 114, 101, 115, 104] := fun e he => by
  obtain ⟨⟨_, h1⟩, ⟨_, h2⟩⟩ := h e he
  exact ⟨fun k => h1 (by rw [k]; rfl), fun k => h2 (by rw [k]; rfl)⟩
set_option maxRecDepth 1000000 in
set_option maxHeartbeats 32000000 in
theorem law_FnTreeLink (A0 : Option Addr) (n0 c0 : Nat) (w : World) (h0 : IsBytes w A0 n0 c0) :
    Calls Tryd.prog 11 #[.slice A0 n0 c0] w fun e w' => e = .returned (.bool true) ∧ Below w.heap.size w w' := by
  by_cases hn0 : n0 ≤ 1048576
  case neg =>
    go_enter Tryd.func11, Tryd.ntmps11
    go_wp2
    go_ret
    exact ⟨rfl, Below.refl _ _⟩
  go_enter Tryd.func11, Tryd.ntmps11
  go_wp2_with fail
  with_reducible refine (DrawTreeFollow_any A0 n0 c0 w h0).mono ?_
  rintro e w1 ⟨es, g, c, s, hT, hs, rfl, hO, hC⟩
  have hsm := dr_small hT.2 (by have := hT.1; omega)
  have hcap := hO.parts.2.2.1
  have hlo := hO.parts.2.1
  have hl17 := hT.1
  have hE := Lib.hid hO.parts.1.ents
  replace hsm := Lib.hid hsm
  replace hT := Lib.hid hT
  clear hO
  have hsl : s.length ≤ 1048576 := by have := hs.1; omega
  have hsn : s ≠ [102, 114, 101, 115, 104] := fun k => hs.2 (by rw [k]; rfl)
  obtain ⟨x, hx⟩ : ∃ x, treeFollow es s = x := ⟨_, rfl⟩
  obtain ⟨⟨p0, k0, m0, t0⟩, b, hf, hbt, hbf⟩ := entV_shape x
  simp only at hf
  have hfx := Lib.hid (hf.symm ▸ (show entV (treeFollow es s) = entV x by rw [hx]) : entV (treeFollow es s) = .tuple #[.agg #[.string (mkB p0), .int .i64 k0, .int .i64 m0, .string (mkB t0)], .bool b])
  replace hf := Lib.hid hf
  replace hx := Lib.hid hx
  replace hsn := Lib.hid hsn
  go_wp2_with fail
  with_reducible refine (TreeFollow_any es s g c w1 hE.out hsm.out hcap hsl).mono ?_
  rintro e w2 ⟨rfl, hB⟩
  replace hC := hC.trans (hB.mono hC.size)
  replace hE := Lib.hid (hE.out.below hB hE.out.1)
  clear hB
  rw [hfx.out]
  go_wp2_with fail
  obtain ⟨w3, hW⟩ : ∃ X, w2.alloc (.cells #[.string (mkB p0), .int .i64 k0, .int .i64 m0, .string (mkB t0)] 31) = X := ⟨_, rfl⟩
  have hB : Below w2.heap.size w2 w3 := by rw [← hW]; exact (Below.refl _ _).alloc (Nat.le_refl _) _
  obtain ⟨x5b, hx5b⟩ : ∃ x, w2.heap.size = x := ⟨_, rfl⟩
  have x5 : Box4 w3 x5b 31 (.string (mkB p0)) (.int .i64 k0) (.int .i64 m0) (.string (mkB t0)) := by rw [← hW, ← hx5b]; exact Box4.new _ _ _ _ _ _
  replace x5 := Lib.hid x5
  replace hC := hC.trans (hB.mono hC.size)
  replace hE := Lib.hid (hE.out.below hB hE.out.1)
  rw [hW, hx5b]
  clear hW hB hx5b
  with_reducible refine (specTreeFollow_any es s g c w3 hE.out hsm.out hsl).mono ?_
  rintro e w4 ⟨rfl, hB⟩
  replace hC := hC.trans (hB.mono hC.size)
  replace hE := Lib.hid (hE.out.below hB hE.out.1)
  replace x5 := Lib.hid (x5.out.below hB x5.out.lt)
  clear hB
  rw [hfx.out]
  have hnq0_0 := neqD_cells p0 p0 k0 m0 k0 m0 t0 t0 (sameE_refl _)
  have heq0_0 := eqlE_cells p0 p0 k0 m0 k0 m0 t0 t0 (sameE_refl _)
  have hgd0_0 := fun op x y => guardD_cells op x y p0 p0 k0 m0 k0 m0 t0 t0
  cases b with
  | false =>
    clear hbt hbf
    have hBn : Below w4.heap.size w4 (w4.alloc (.cells #[.string (mkB p0), .int .i64 k0, .int .i64 m0, .string (mkB t0)] 31)) := (Below.refl _ _).alloc (Nat.le_refl _) _
    have hnn := x5.out.below hBn x5.out.lt
    have x5c0 := hnn.cell0
    have x5c1 := hnn.cell1
    have x5c2 := hnn.cell2
    have x5c3 := hnn.cell3
    clear hnn
    have hnn := Box4.new w4 31 (.string (mkB p0)) (.int .i64 k0) (.int .i64 m0) (.string (mkB t0))
    have nwc0 := hnn.cell0
    have nwc1 := hnn.cell1
    have nwc2 := hnn.cell2
    have nwc3 := hnn.cell3
    clear hnn hBn
    go_wp2
    go_ret
    exact ⟨rfl, hC.alloc hC.size _⟩
  | true =>
    replace hbt := Lib.hid (hbt rfl)
    clear hbf
    have hok : treeOk es = true := by
      cases h : treeOk es with
      | true => rfl
      | false =>
        have h2 := hx.out
        rw [treeFollow_bad h, hbt.out] at h2
        cases h2
    have hne : es ≠ [] := by
      intro h
      have h2 := hx.out
      rw [treeFollow_ok hok, hbt.out] at h2
      have h3 := (follow_end h2).1
      rw [h] at h3
      cases h3
    obtain ⟨⟨fs, b2⟩, hput⟩ : ∃ y, putL es ⟨[102, 114, 101, 115, 104], 3, 0, s⟩ = y := ⟨_, rfl⟩
    have hpt : treePut es ⟨[102, 114, 101, 115, 104], 3, 0, s⟩ = (fs, b2) := by rw [treePut_ok hok]; exact hput
    have hfs : fs ≠ [] ∧ Small fs := by
      cases b2 with
      | false => rw [putL_false hput]; exact ⟨hne, hsm.out⟩
      | true =>
        obtain ⟨_, _, hm, hl⟩ := putL_ok hok hput
        refine ⟨fun h => ?_, by omega, fun i hi => ?_⟩
        · have := (hm _).2 (.inl rfl)
          rw [h] at this; cases this
        · rcases (hm _).1 (List.getElem_mem hi) with h1 | ⟨h1, _⟩
          · rw [h1]; exact ⟨by simp, hsl⟩
          · obtain ⟨j, hj, h2⟩ := List.getElem_of_mem h1
            rw [← h2]; exact hsm.out.2 j hj
    have hlk : b2 = true → treeFollow fs [102, 114, 101, 115, 104] = x := by
      intro h
      subst h
      rw [(link_follow hok hput (fresh_no hT.out.2) hsn.out).2]; exact hx.out
    replace hlk := Lib.hid hlk
    replace hok := Lib.hid hok
    replace hput := Lib.hid hput
    replace hpt := Lib.hid hpt
    replace hfs := Lib.hid hfs
    replace hne := Lib.hid hne
    have hBn : Below w4.heap.size w4 (w4.alloc (.cells #[.string (mkB p0), .int .i64 k0, .int .i64 m0, .string (mkB t0)] 31)) := (Below.refl _ _).alloc (Nat.le_refl _) _
    have hnn := x5.out.below hBn x5.out.lt
    have x5c0 := hnn.cell0
    have x5c1 := hnn.cell1
    have x5c2 := hnn.cell2
    have x5c3 := hnn.cell3
    clear hnn
    have hnn := Box4.new w4 31 (.string (mkB p0)) (.int .i64 k0) (.int .i64 m0) (.string (mkB t0))
    have nwc0 := hnn.cell0
    have nwc1 := hnn.cell1
    have nwc2 := hnn.cell2
    have nwc3 := hnn.cell3
    clear hnn hBn
    go_wp2_with fail
    clear x5c0 x5c1 x5c2 x5c3 nwc0 nwc1 nwc2 nwc3
    obtain ⟨w5, hW⟩ : ∃ X, w4.alloc (.cells #[.string (mkB p0), .int .i64 k0, .int .i64 m0, .string (mkB t0)] 31) = X := ⟨_, rfl⟩
    have hB : Below w4.heap.size w4 w5 := by rw [← hW]; exact (Below.refl _ _).alloc (Nat.le_refl _) _
    obtain ⟨x7b, hx7b⟩ : ∃ x, w4.heap.size = x := ⟨_, rfl⟩
    have x7 : Box4 w5 x7b 31 (.string (mkB p0)) (.int .i64 k0) (.int .i64 m0) (.string (mkB t0)) := by rw [← hW, ← hx7b]; exact Box4.new _ _ _ _ _ _
    replace x7 := Lib.hid x7
    replace hC := hC.trans (hB.mono hC.size)
    replace hE := Lib.hid (hE.out.below hB hE.out.1)
    replace x5 := Lib.hid (x5.out.below hB x5.out.lt)
    rw [hW, hx7b]
    clear hW hB hx7b
    have hcl := TreePut_c es ⟨[102, 114, 101, 115, 104], 3, 0, s⟩ g c w5 hE.out hsm.out hcap (by simp) hsl
    rw [hpt.out] at hcl
    refine hcl.mono ?_
    rintro e w6 ⟨A2, c2, rfl, hO2, hB⟩
    clear hcl
    replace hC := hC.trans (hB.mono hC.size)
    replace hE := Lib.hid (hE.out.below hB hE.out.1)
    replace x5 := Lib.hid (x5.out.below hB x5.out.lt)
    replace x7 := Lib.hid (x7.out.below hB x7.out.lt)
    clear hB
    rcases hO2 with ⟨_, _, h⟩ | ⟨g2, rfl, hR2⟩
    · exact absurd h hfs.out.1
    have hcap2 := hR2.parts.2.2.1
    have hE2 := Lib.hid hR2.parts.1.ents
    clear hR2
    cases b2 with
    | false =>
      obtain ⟨⟨p1, k1, m1, t1⟩, b1, hf1, _, _⟩ := entV_shape (treeFollow fs [102, 114, 101, 115, 104])
      simp only at hf1
      replace hf1 := Lib.hid hf1
      go_wp2_with fail
      refine (TreeFollow_any fs [102, 114, 101, 115, 104] g2 c2 w6 hE2.out hfs.out.2 hcap2 (by simp)).mono ?_
      rintro e w7 ⟨rfl, hB⟩
      replace hC := hC.trans (hB.mono hC.size)
      replace hE := Lib.hid (hE.out.below hB hE.out.1)
      replace x5 := Lib.hid (x5.out.below hB x5.out.lt)
      replace x7 := Lib.hid (x7.out.below hB x7.out.lt)
      replace hE2 := Lib.hid (hE2.out.below hB hE2.out.1)
      clear hB
      rw [hf1.out]
      go_wp2
      go_ret
      exact ⟨rfl, hC.alloc hC.size _⟩
    | true =>
      have hf1 := Lib.hid (hf.out ▸ (show entV (treeFollow fs [102, 114, 101, 115, 104]) = entV x by rw [hlk.out rfl]) : entV (treeFollow fs [102, 114, 101, 115, 104]) = .tuple #[.agg #[.string (mkB p0), .int .i64 k0, .int .i64 m0, .string (mkB t0)], .bool true])
      clear hlk
      go_wp2_with fail
      refine (TreeFollow_any fs [102, 114, 101, 115, 104] g2 c2 w6 hE2.out hfs.out.2 hcap2 (by simp)).mono ?_
      rintro e w7 ⟨rfl, hB⟩
      replace hC := hC.trans (hB.mono hC.size)
      replace hE := Lib.hid (hE.out.below hB hE.out.1)
      replace x5 := Lib.hid (x5.out.below hB x5.out.lt)
      replace x7 := Lib.hid (x7.out.below hB x7.out.lt)
      replace hE2 := Lib.hid (hE2.out.below hB hE2.out.1)
      clear hB
      rw [hf1.out]
      have hBn : Below w7.heap.size w7 (w7.alloc (.cells #[.string (mkB p0), .int .i64 k0, .int .i64 m0, .string (mkB t0)] 31)) := (Below.refl _ _).alloc (Nat.le_refl _) _
      have hnn := x5.out.below hBn x5.out.lt
      have x5c0 := hnn.cell0
      have x5c1 := hnn.cell1
      have x5c2 := hnn.cell2
      have x5c3 := hnn.cell3
      clear hnn
      have hnn := Box4.new w7 31 (.string (mkB p0)) (.int .i64 k0) (.int .i64 m0) (.string (mkB t0))
      have nwc0 := hnn.cell0
      have nwc1 := hnn.cell1
      have nwc2 := hnn.cell2
      have nwc3 := hnn.cell3
      clear hnn hBn
      go_wp2
      go_ret
      exact ⟨rfl, hC.alloc hC.size _⟩
end Go.Proofs.YtjihpbioofikcaaDoor
