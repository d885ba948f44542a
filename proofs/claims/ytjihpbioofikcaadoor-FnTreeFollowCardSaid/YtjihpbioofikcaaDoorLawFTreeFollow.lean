/-
  The law FnTreeFollow, walked.
-/
import Derived.Test.YtjihpbioofikcaaDoorLawD
namespace Go.Proofs.YtjihpbioofikcaaDoor
open Go.RowKit
set_option linter.unusedVariables false
set_option linter.unusedSimpArgs false
attribute [local go_sem] mkB_size mkB_extract mkB_get mkB_append mkB_append_raw raw_append_mkB mkB_toList

set_option maxRecDepth 1000000 in
set_option maxHeartbeats 32000000 in
theorem law_FnTreeFollow (A0 : Option Addr) (n0 c0 : Nat) (w : World) (h0 : IsBytes w A0 n0 c0) :
    Calls Tryd.prog 7 #[.slice A0 n0 c0] w fun e w' => e = .returned (.bool true) ∧ Below w.heap.size w w' := by
  by_cases hn0 : n0 ≤ 1048576
  case neg =>
    go_enter Tryd.func7, Tryd.ntmps7
    go_wp2
    go_ret
    exact ⟨rfl, Below.refl _ _⟩
  go_enter Tryd.func7, Tryd.ntmps7
  go_wp2_with fail
  with_reducible refine (DrawTreeFollow_any A0 n0 c0 w h0).mono ?_
  rintro e w1 ⟨es, g, c, s, hT, hs, rfl, hO, hC⟩
  have hsm := dr_small hT.2 (by have := hT.1; omega)
  have hcap := hO.parts.2.2.1
  have hlo := hO.parts.2.1
  have hl17 := hT.1
  have hE := Lib.hid hO.parts.1.ents
  replace hsm := Lib.hid hsm
  replace hT := Lib.hid hT
  clear hO
  have hsl : s.length ≤ 1048576 := by have := hs.1; omega
  obtain ⟨x, hx⟩ : ∃ x, treeFollow es s = x := ⟨_, rfl⟩
  obtain ⟨⟨p0, k0, m0, t0⟩, b, hf, hbt, hbf⟩ := entV_shape x
  simp only at hf
  have hfx := Lib.hid (hf.symm ▸ (show entV (treeFollow es s) = entV x by rw [hx]) : entV (treeFollow es s) = .tuple #[.agg #[.string (mkB p0), .int .i64 k0, .int .i64 m0, .string (mkB t0)], .bool b])
  replace hf := Lib.hid hf
  replace hx := Lib.hid hx
  go_wp2_with fail
  with_reducible refine (TreeFollow_any es s g c w1 hE.out hsm.out hcap hsl).mono ?_
  rintro e w2 ⟨rfl, hB⟩
  replace hC := hC.trans (hB.mono hC.size)
  replace hE := Lib.hid (hE.out.below hB hE.out.1)
  clear hB
  rw [hfx.out]
  go_wp2_with fail
  obtain ⟨w3, hW⟩ : ∃ X, w2.alloc (.cells #[.string (mkB p0), .int .i64 k0, .int .i64 m0, .string (mkB t0)] 31) = X := ⟨_, rfl⟩
  have hB : Below w2.heap.size w2 w3 := by rw [← hW]; exact (Below.refl _ _).alloc (Nat.le_refl _) _
  obtain ⟨x5b, hx5b⟩ : ∃ x, w2.heap.size = x := ⟨_, rfl⟩
  have x5 : Box4 w3 x5b 31 (.string (mkB p0)) (.int .i64 k0) (.int .i64 m0) (.string (mkB t0)) := by rw [← hW, ← hx5b]; exact Box4.new _ _ _ _ _ _
  replace x5 := Lib.hid x5
  replace hC := hC.trans (hB.mono hC.size)
  replace hE := Lib.hid (hE.out.below hB hE.out.1)
  rw [hW, hx5b]
  clear hW hB hx5b
  with_reducible refine (specTreeFollow_any es s g c w3 hE.out hsm.out hsl).mono ?_
  rintro e w4 ⟨rfl, hB⟩
  replace hC := hC.trans (hB.mono hC.size)
  replace hE := Lib.hid (hE.out.below hB hE.out.1)
  replace x5 := Lib.hid (x5.out.below hB x5.out.lt)
  clear hB
  rw [hfx.out]
  have hnq0_0 := neqD_cells p0 p0 k0 m0 k0 m0 t0 t0 (sameE_refl _)
  have heq0_0 := eqlE_cells p0 p0 k0 m0 k0 m0 t0 t0 (sameE_refl _)
  have hgd0_0 := fun op x y => guardD_cells op x y p0 p0 k0 m0 k0 m0 t0 t0
  cases b with
  | false =>
    replace hbf := Lib.hid (hbf rfl)
    clear hbt
    have hBn : Below w4.heap.size w4 (w4.alloc (.cells #[.string (mkB p0), .int .i64 k0, .int .i64 m0, .string (mkB t0)] 31)) := (Below.refl _ _).alloc (Nat.le_refl _) _
    have hnn := x5.out.below hBn x5.out.lt
    have x5c0 := hnn.cell0
    have x5c1 := hnn.cell1
    have x5c2 := hnn.cell2
    have x5c3 := hnn.cell3
    clear hnn
    have hnn := Box4.new w4 31 (.string (mkB p0)) (.int .i64 k0) (.int .i64 m0) (.string (mkB t0))
    have nwc0 := hnn.cell0
    have nwc1 := hnn.cell1
    have nwc2 := hnn.cell2
    have nwc3 := hnn.cell3
    clear hnn hBn
    go_wp2_with fail
    clear x5c0 x5c1 x5c2 x5c3 nwc0 nwc1 nwc2 nwc3
    obtain ⟨w5, hW⟩ : ∃ X, w4.alloc (.cells #[.string (mkB p0), .int .i64 k0, .int .i64 m0, .string (mkB t0)] 31) = X := ⟨_, rfl⟩
    have hB : Below w4.heap.size w4 w5 := by rw [← hW]; exact (Below.refl _ _).alloc (Nat.le_refl _) _
    obtain ⟨x7b, hx7b⟩ : ∃ x, w4.heap.size = x := ⟨_, rfl⟩
    have x7 : Box4 w5 x7b 31 (.string (mkB p0)) (.int .i64 k0) (.int .i64 m0) (.string (mkB t0)) := by rw [← hW, ← hx7b]; exact Box4.new _ _ _ _ _ _
    replace x7 := Lib.hid x7
    replace hC := hC.trans (hB.mono hC.size)
    replace hE := Lib.hid (hE.out.below hB hE.out.1)
    replace x5 := Lib.hid (x5.out.below hB x5.out.lt)
    rw [hW, hx7b]
    clear hW hB hx7b
    with_reducible refine (specTreeOk_any es g c w5 hE.out hsm.out).mono ?_
    rintro e w6 ⟨rfl, hB⟩
    replace hC := hC.trans (hB.mono hC.size)
    replace hE := Lib.hid (hE.out.below hB hE.out.1)
    replace x5 := Lib.hid (x5.out.below hB x5.out.lt)
    replace x7 := Lib.hid (x7.out.below hB x7.out.lt)
    clear hB
    have x5c0 := x5.out.cell0
    have x5c1 := x5.out.cell1
    have x5c2 := x5.out.cell2
    have x5c3 := x5.out.cell3
    have x7c0 := x7.out.cell0
    have x7c1 := x7.out.cell1
    have x7c2 := x7.out.cell2
    have x7c3 := x7.out.cell3
    rcases boolOf (treeOk es) with hok | hok
    · rw [hok.out]
      go_wp2
      go_ret
      exact ⟨rfl, hC⟩
    rw [hok.out]
    have hlen16 := (treeOk_is hok.out).len
    obtain ⟨⟨p1, k1, m1, t1⟩, b1, hf1, hbt1, hbf1⟩ := entV_shape (treeGet es s)
    simp only at hf1
    have hgo : x = goOn es 16 (treeGet es s) := by rw [treeGet_ok hok.out, ← follow_goOn, ← treeFollow_ok hok.out]; exact hx.out.symm
    replace hf1 := Lib.hid hf1
    replace hgo := Lib.hid hgo
    replace hbt1 := Lib.hid hbt1
    replace hbf1 := Lib.hid hbf1
    go_wp2_with fail
    with_reducible refine (TreeGet_any es s g c w6 hE.out hsm.out hcap hsl).mono ?_
    rintro e w7 ⟨rfl, hB⟩
    replace hC := hC.trans (hB.mono hC.size)
    replace hE := Lib.hid (hE.out.below hB hE.out.1)
    replace x5 := Lib.hid (x5.out.below hB x5.out.lt)
    replace x7 := Lib.hid (x7.out.below hB x7.out.lt)
    clear hB
    rw [hf1.out]
    cases b1 with
    | false =>
      go_wp2
      go_ret
      exact ⟨rfl, hC.alloc hC.size _⟩
    | true =>
      have hy := hbt1.out rfl
      have h1 := hgo.out
      rw [hy] at h1
      by_cases hk1 : k1 = 3
      case neg =>
        rw [goOn_end hk1] at h1
        rw [hbf.out] at h1
        cases h1
      subst hk1
      clear x5c0 x5c1 x5c2 x5c3 x7c0 x7c1 x7c2 x7c3
      have htl : t1.length ≤ 1048576 := by
        have h2 := hy
        rw [treeGet_ok hok.out] at h2
        have h3 := (hT.out.2 _ (getAt_path h2).1).2.1
        simp only at h3
        omega
      have h5 : treeFollow es t1 = x := by rw [treeFollow_ok hok.out, follow_15 hlen16, h1, goOn_link rfl, ← follow_goOn]
      have hfx2 := Lib.hid (hf.out ▸ (show entV (treeFollow es t1) = entV x by rw [h5]) : entV (treeFollow es t1) = .tuple #[.agg #[.string (mkB p0), .int .i64 k0, .int .i64 m0, .string (mkB t0)], .bool false])
      replace hy := Lib.hid hy
      replace h1 := Lib.hid h1
      clear h5
      go_wp2_with fail
      obtain ⟨w8, hW⟩ : ∃ X, w7.alloc (.cells #[.string (mkB p1), .int .i64 3, .int .i64 m1, .string (mkB t1)] 31) = X := ⟨_, rfl⟩
      have hB : Below w7.heap.size w7 w8 := by rw [← hW]; exact (Below.refl _ _).alloc (Nat.le_refl _) _
      obtain ⟨x9b, hx9b⟩ : ∃ x, w7.heap.size = x := ⟨_, rfl⟩
      have x9 : Box4 w8 x9b 31 (.string (mkB p1)) (.int .i64 3) (.int .i64 m1) (.string (mkB t1)) := by rw [← hW, ← hx9b]; exact Box4.new _ _ _ _ _ _
      replace x9 := Lib.hid x9
      replace hC := hC.trans (hB.mono hC.size)
      replace hE := Lib.hid (hE.out.below hB hE.out.1)
      replace x5 := Lib.hid (x5.out.below hB x5.out.lt)
      replace x7 := Lib.hid (x7.out.below hB x7.out.lt)
      rw [hW, hx9b]
      clear hW hB hx9b
      with_reducible refine (TreeFollow_any es t1 g c w8 hE.out hsm.out hcap htl).mono ?_
      rintro e w9 ⟨rfl, hB⟩
      replace hC := hC.trans (hB.mono hC.size)
      replace hE := Lib.hid (hE.out.below hB hE.out.1)
      replace x5 := Lib.hid (x5.out.below hB x5.out.lt)
      replace x7 := Lib.hid (x7.out.below hB x7.out.lt)
      replace x9 := Lib.hid (x9.out.below hB x9.out.lt)
      clear hB
      rw [hfx2.out]
      have hBn : Below w9.heap.size w9 (w9.alloc (.cells #[.string (mkB p0), .int .i64 k0, .int .i64 m0, .string (mkB t0)] 31)) := (Below.refl _ _).alloc (Nat.le_refl _) _
      have hnn := x5.out.below hBn x5.out.lt
      have x5c0 := hnn.cell0
      have x5c1 := hnn.cell1
      have x5c2 := hnn.cell2
      have x5c3 := hnn.cell3
      clear hnn
      have hnn := Box4.new w9 31 (.string (mkB p0)) (.int .i64 k0) (.int .i64 m0) (.string (mkB t0))
      have nwc0 := hnn.cell0
      have nwc1 := hnn.cell1
      have nwc2 := hnn.cell2
      have nwc3 := hnn.cell3
      clear hnn hBn
      go_wp2_with fail
      clear x5c0 x5c1 x5c2 x5c3 nwc0 nwc1 nwc2 nwc3
      obtain ⟨w10, hW⟩ : ∃ X, w9.alloc (.cells #[.string (mkB p0), .int .i64 k0, .int .i64 m0, .string (mkB t0)] 31) = X := ⟨_, rfl⟩
      have hB : Below w9.heap.size w9 w10 := by rw [← hW]; exact (Below.refl _ _).alloc (Nat.le_refl _) _
      obtain ⟨x11b, hx11b⟩ : ∃ x, w9.heap.size = x := ⟨_, rfl⟩
      have x11 : Box4 w10 x11b 31 (.string (mkB p0)) (.int .i64 k0) (.int .i64 m0) (.string (mkB t0)) := by rw [← hW, ← hx11b]; exact Box4.new _ _ _ _ _ _
      replace x11 := Lib.hid x11
      replace hC := hC.trans (hB.mono hC.size)
      replace hE := Lib.hid (hE.out.below hB hE.out.1)
      replace x5 := Lib.hid (x5.out.below hB x5.out.lt)
      replace x7 := Lib.hid (x7.out.below hB x7.out.lt)
      replace x9 := Lib.hid (x9.out.below hB x9.out.lt)
      rw [hW, hx11b]
      clear hW hB hx11b
      have hpl : p0.length ≤ 1048576 := by
        have h3 := hf.out
        rw [hbf.out] at h3
        simp only [entV] at h3
        injection h3 with h4
        have h5 : p0 = [] := by
          have h6 := congrArg (fun a => a[0]?) h4
          simp [mkB] at h6
          exact h6.1
        rw [h5]; simp
      obtain ⟨⟨p2, k2, m2, t2⟩, b2, hf2, hbt2, hbf2⟩ := entV_shape (treeGet es p0)
      simp only at hf2
      with_reducible refine (TreeGet_any es p0 g c w10 hE.out hsm.out hcap hpl).mono ?_
      rintro e w11 ⟨rfl, hB⟩
      replace hC := hC.trans (hB.mono hC.size)
      replace hE := Lib.hid (hE.out.below hB hE.out.1)
      replace x5 := Lib.hid (x5.out.below hB x5.out.lt)
      replace x7 := Lib.hid (x7.out.below hB x7.out.lt)
      replace x9 := Lib.hid (x9.out.below hB x9.out.lt)
      replace x11 := Lib.hid (x11.out.below hB x11.out.lt)
      clear hB
      rw [hf2]
      clear hf2 hbt2 hbf2
      have hBn : Below w11.heap.size w11 (w11.alloc (.cells #[.string (mkB p2), .int .i64 k2, .int .i64 m2, .string (mkB t2)] 31)) := (Below.refl _ _).alloc (Nat.le_refl _) _
      have hnn := x5.out.below hBn x5.out.lt
      have x5c0 := hnn.cell0
      have x5c1 := hnn.cell1
      have x5c2 := hnn.cell2
      have x5c3 := hnn.cell3
      clear hnn
      have hnn := x11.out.below hBn x11.out.lt
      have x11c0 := hnn.cell0
      have x11c1 := hnn.cell1
      have x11c2 := hnn.cell2
      have x11c3 := hnn.cell3
      clear hnn
      have hnn := Box4.new w11 31 (.string (mkB p2)) (.int .i64 k2) (.int .i64 m2) (.string (mkB t2))
      have nwc0 := hnn.cell0
      have nwc1 := hnn.cell1
      have nwc2 := hnn.cell2
      have nwc3 := hnn.cell3
      clear hnn hBn
      go_wp2
      go_ret
      exact ⟨rfl, hC.alloc hC.size _⟩
  | true =>
    replace hbt := Lib.hid (hbt rfl)
    clear hbf
    have hBn : Below w4.heap.size w4 (w4.alloc (.cells #[.string (mkB p0), .int .i64 k0, .int .i64 m0, .string (mkB t0)] 31)) := (Below.refl _ _).alloc (Nat.le_refl _) _
    have hnn := x5.out.below hBn x5.out.lt
    have x5c0 := hnn.cell0
    have x5c1 := hnn.cell1
    have x5c2 := hnn.cell2
    have x5c3 := hnn.cell3
    clear hnn
    have hnn := Box4.new w4 31 (.string (mkB p0)) (.int .i64 k0) (.int .i64 m0) (.string (mkB t0))
    have nwc0 := hnn.cell0
    have nwc1 := hnn.cell1
    have nwc2 := hnn.cell2
    have nwc3 := hnn.cell3
    clear hnn hBn
    go_wp2_with fail
    clear x5c0 x5c1 x5c2 x5c3 nwc0 nwc1 nwc2 nwc3
    obtain ⟨w5, hW⟩ : ∃ X, w4.alloc (.cells #[.string (mkB p0), .int .i64 k0, .int .i64 m0, .string (mkB t0)] 31) = X := ⟨_, rfl⟩
    have hB : Below w4.heap.size w4 w5 := by rw [← hW]; exact (Below.refl _ _).alloc (Nat.le_refl _) _
    obtain ⟨x7b, hx7b⟩ : ∃ x, w4.heap.size = x := ⟨_, rfl⟩
    have x7 : Box4 w5 x7b 31 (.string (mkB p0)) (.int .i64 k0) (.int .i64 m0) (.string (mkB t0)) := by rw [← hW, ← hx7b]; exact Box4.new _ _ _ _ _ _
    replace x7 := Lib.hid x7
    replace hC := hC.trans (hB.mono hC.size)
    replace hE := Lib.hid (hE.out.below hB hE.out.1)
    replace x5 := Lib.hid (x5.out.below hB x5.out.lt)
    rw [hW, hx7b]
    clear hW hB hx7b
    with_reducible refine (specTreeOk_any es g c w5 hE.out hsm.out).mono ?_
    rintro e w6 ⟨rfl, hB⟩
    replace hC := hC.trans (hB.mono hC.size)
    replace hE := Lib.hid (hE.out.below hB hE.out.1)
    replace x5 := Lib.hid (x5.out.below hB x5.out.lt)
    replace x7 := Lib.hid (x7.out.below hB x7.out.lt)
    clear hB
    have x5c0 := x5.out.cell0
    have x5c1 := x5.out.cell1
    have x5c2 := x5.out.cell2
    have x5c3 := x5.out.cell3
    have x7c0 := x7.out.cell0
    have x7c1 := x7.out.cell1
    have x7c2 := x7.out.cell2
    have x7c3 := x7.out.cell3
    rcases boolOf (treeOk es) with hok | hok
    · rw [hok.out]
      go_wp2
      go_ret
      exact ⟨rfl, hC⟩
    rw [hok.out]
    have hlen16 := (treeOk_is hok.out).len
    obtain ⟨⟨p1, k1, m1, t1⟩, b1, hf1, hbt1, hbf1⟩ := entV_shape (treeGet es s)
    simp only at hf1
    have hgo : x = goOn es 16 (treeGet es s) := by rw [treeGet_ok hok.out, ← follow_goOn, ← treeFollow_ok hok.out]; exact hx.out.symm
    replace hf1 := Lib.hid hf1
    replace hgo := Lib.hid hgo
    replace hbt1 := Lib.hid hbt1
    replace hbf1 := Lib.hid hbf1
    go_wp2_with fail
    with_reducible refine (TreeGet_any es s g c w6 hE.out hsm.out hcap hsl).mono ?_
    rintro e w7 ⟨rfl, hB⟩
    replace hC := hC.trans (hB.mono hC.size)
    replace hE := Lib.hid (hE.out.below hB hE.out.1)
    replace x5 := Lib.hid (x5.out.below hB x5.out.lt)
    replace x7 := Lib.hid (x7.out.below hB x7.out.lt)
    clear hB
    rw [hf1.out]
    cases b1 with
    | false =>
      have h1 := hgo.out
      rw [hbf1.out rfl, hbt.out] at h1
      cases h1
    | true =>
      have hy := hbt1.out rfl
      have h1 := hgo.out
      rw [hy] at h1
      by_cases hk1 : k1 = 3
      case neg =>
        rw [goOn_end hk1] at h1
        rw [hbt.out] at h1
        cases h1
        have hkb : (k0 != 3) = true := by simp [hk1]
        replace hk1 := Lib.hid hk1
        clear x5c0 x5c1 x5c2 x5c3 x7c0 x7c1 x7c2 x7c3
        have hBn : Below w7.heap.size w7 (w7.alloc (.cells #[.string (mkB p0), .int .i64 k0, .int .i64 m0, .string (mkB t0)] 31)) := (Below.refl _ _).alloc (Nat.le_refl _) _
        have hnn := x5.out.below hBn x5.out.lt
        have x5c0 := hnn.cell0
        have x5c1 := hnn.cell1
        have x5c2 := hnn.cell2
        have x5c3 := hnn.cell3
        clear hnn
        have hnn := Box4.new w7 31 (.string (mkB p0)) (.int .i64 k0) (.int .i64 m0) (.string (mkB t0))
        have nwc0 := hnn.cell0
        have nwc1 := hnn.cell1
        have nwc2 := hnn.cell2
        have nwc3 := hnn.cell3
        clear hnn hBn
        go_wp2
        go_ret
        exact ⟨rfl, hC.alloc hC.size _⟩
      subst hk1
      clear x5c0 x5c1 x5c2 x5c3 x7c0 x7c1 x7c2 x7c3
      have htl : t1.length ≤ 1048576 := by
        have h2 := hy
        rw [treeGet_ok hok.out] at h2
        have h3 := (hT.out.2 _ (getAt_path h2).1).2.1
        simp only at h3
        omega
      have h5 : treeFollow es t1 = x := by rw [treeFollow_ok hok.out, follow_15 hlen16, h1, goOn_link rfl, ← follow_goOn]
      have hfx2 := Lib.hid (hf.out ▸ (show entV (treeFollow es t1) = entV x by rw [h5]) : entV (treeFollow es t1) = .tuple #[.agg #[.string (mkB p0), .int .i64 k0, .int .i64 m0, .string (mkB t0)], .bool true])
      replace hy := Lib.hid hy
      replace h1 := Lib.hid h1
      clear h5
      go_wp2_with fail
      obtain ⟨w8, hW⟩ : ∃ X, w7.alloc (.cells #[.string (mkB p1), .int .i64 3, .int .i64 m1, .string (mkB t1)] 31) = X := ⟨_, rfl⟩
      have hB : Below w7.heap.size w7 w8 := by rw [← hW]; exact (Below.refl _ _).alloc (Nat.le_refl _) _
      obtain ⟨x9b, hx9b⟩ : ∃ x, w7.heap.size = x := ⟨_, rfl⟩
      have x9 : Box4 w8 x9b 31 (.string (mkB p1)) (.int .i64 3) (.int .i64 m1) (.string (mkB t1)) := by rw [← hW, ← hx9b]; exact Box4.new _ _ _ _ _ _
      replace x9 := Lib.hid x9
      replace hC := hC.trans (hB.mono hC.size)
      replace hE := Lib.hid (hE.out.below hB hE.out.1)
      replace x5 := Lib.hid (x5.out.below hB x5.out.lt)
      replace x7 := Lib.hid (x7.out.below hB x7.out.lt)
      rw [hW, hx9b]
      clear hW hB hx9b
      with_reducible refine (TreeFollow_any es t1 g c w8 hE.out hsm.out hcap htl).mono ?_
      rintro e w9 ⟨rfl, hB⟩
      replace hC := hC.trans (hB.mono hC.size)
      replace hE := Lib.hid (hE.out.below hB hE.out.1)
      replace x5 := Lib.hid (x5.out.below hB x5.out.lt)
      replace x7 := Lib.hid (x7.out.below hB x7.out.lt)
      replace x9 := Lib.hid (x9.out.below hB x9.out.lt)
      clear hB
      rw [hfx2.out]
      have hBn : Below w9.heap.size w9 (w9.alloc (.cells #[.string (mkB p0), .int .i64 k0, .int .i64 m0, .string (mkB t0)] 31)) := (Below.refl _ _).alloc (Nat.le_refl _) _
      have hnn := x5.out.below hBn x5.out.lt
      have x5c0 := hnn.cell0
      have x5c1 := hnn.cell1
      have x5c2 := hnn.cell2
      have x5c3 := hnn.cell3
      clear hnn
      have hnn := Box4.new w9 31 (.string (mkB p0)) (.int .i64 k0) (.int .i64 m0) (.string (mkB t0))
      have nwc0 := hnn.cell0
      have nwc1 := hnn.cell1
      have nwc2 := hnn.cell2
      have nwc3 := hnn.cell3
      clear hnn hBn
      go_wp2_with fail
      clear x5c0 x5c1 x5c2 x5c3 nwc0 nwc1 nwc2 nwc3
      obtain ⟨w10, hW⟩ : ∃ X, w9.alloc (.cells #[.string (mkB p0), .int .i64 k0, .int .i64 m0, .string (mkB t0)] 31) = X := ⟨_, rfl⟩
      have hB : Below w9.heap.size w9 w10 := by rw [← hW]; exact (Below.refl _ _).alloc (Nat.le_refl _) _
      obtain ⟨x11b, hx11b⟩ : ∃ x, w9.heap.size = x := ⟨_, rfl⟩
      have x11 : Box4 w10 x11b 31 (.string (mkB p0)) (.int .i64 k0) (.int .i64 m0) (.string (mkB t0)) := by rw [← hW, ← hx11b]; exact Box4.new _ _ _ _ _ _
      replace x11 := Lib.hid x11
      replace hC := hC.trans (hB.mono hC.size)
      replace hE := Lib.hid (hE.out.below hB hE.out.1)
      replace x5 := Lib.hid (x5.out.below hB x5.out.lt)
      replace x7 := Lib.hid (x7.out.below hB x7.out.lt)
      replace x9 := Lib.hid (x9.out.below hB x9.out.lt)
      rw [hW, hx11b]
      clear hW hB hx11b
      have hend := follow_end (show follow es 16 s = some ⟨p0, k0, m0, t0⟩ by rw [← treeFollow_ok hok.out, hx.out, hbt.out])
      have hpl : p0.length ≤ 1048576 := by
        have h3 := (hT.out.2 _ hend.1).1.1
        simp only at h3
        omega
      have hz : treeGet es p0 = some ⟨p0, k0, m0, t0⟩ := by rw [treeGet_ok hok.out]; exact getAt_self (treeOk_is hok.out).sorted hend.1
      have hk3 : (k0 != 3) = true := by have := hend.2; simpa using this
      clear hend
      with_reducible refine (TreeGet_any es p0 g c w10 hE.out hsm.out hcap hpl).mono ?_
      rintro e w11 ⟨rfl, hB⟩
      replace hC := hC.trans (hB.mono hC.size)
      replace hE := Lib.hid (hE.out.below hB hE.out.1)
      replace x5 := Lib.hid (x5.out.below hB x5.out.lt)
      replace x7 := Lib.hid (x7.out.below hB x7.out.lt)
      replace x9 := Lib.hid (x9.out.below hB x9.out.lt)
      replace x11 := Lib.hid (x11.out.below hB x11.out.lt)
      clear hB
      rw [hz]
      simp only [entV]
      have hBn : Below w11.heap.size w11 (w11.alloc (.cells #[.string (mkB p0), .int .i64 k0, .int .i64 m0, .string (mkB t0)] 31)) := (Below.refl _ _).alloc (Nat.le_refl _) _
      have hnn := x5.out.below hBn x5.out.lt
      have x5c0 := hnn.cell0
      have x5c1 := hnn.cell1
      have x5c2 := hnn.cell2
      have x5c3 := hnn.cell3
      clear hnn
      have hnn := x11.out.below hBn x11.out.lt
      have x11c0 := hnn.cell0
      have x11c1 := hnn.cell1
      have x11c2 := hnn.cell2
      have x11c3 := hnn.cell3
      clear hnn
      have hnn := Box4.new w11 31 (.string (mkB p0)) (.int .i64 k0) (.int .i64 m0) (.string (mkB t0))
      have nwc0 := hnn.cell0
      have nwc1 := hnn.cell1
      have nwc2 := hnn.cell2
      have nwc3 := hnn.cell3
      clear hnn hBn
      go_wp2
      go_ret
      exact ⟨rfl, hC.alloc hC.size _⟩
end Go.Proofs.YtjihpbioofikcaaDoor
