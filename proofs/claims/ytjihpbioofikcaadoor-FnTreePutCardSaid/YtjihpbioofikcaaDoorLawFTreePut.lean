/-
  The law FnTreePut, walked.
-/
import Derived.Test.YtjihpbioofikcaaDoorJsT
import Derived.Test.YtjihpbioofikcaaDoorPutC
import Derived.Test.YtjihpbioofikcaaDoorDrawW
namespace Go.Proofs.YtjihpbioofikcaaDoor
open Go.RowKit
set_option linter.unusedVariables false
set_option linter.unusedSimpArgs false
attribute [local go_sem] mkB_size mkB_extract mkB_get mkB_append mkB_append_raw raw_append_mkB mkB_toList

theorem InE.posD {w : World} {A : Option Addr} {c : Nat} {es : List En} (h : InE w A c es) {k : Nat} (hk : k < es.length) : ∃ g, A = some ⟨g, 0, none⟩ ∧ Ents w g es ∧ es.length ≤ c := by
  rcases h with ⟨_, _, h⟩ | h
  · rw [h] at hk; simp at hk
  · exact h
theorem put_small {es fs : List En} {e : En} {b : Bool} (hok : treeOk es = true) (hsm : Small es) (h : putL es e = (fs, b)) (hp : e.path.length ≤ 1048576) (ht : e.text.length ≤ 1048576) : Small fs := by
  cases b with
  | false => rw [putL_false h]; exact hsm
  | true =>
    obtain ⟨_, _, hm, hl⟩ := putL_ok hok h
    have := (treeOk_is hok).len
    refine ⟨by omega, fun i hi => ?_⟩
    rcases (hm _).1 (List.getElem_mem hi) with h1 | ⟨h1, _⟩
    · rw [h1]; exact ⟨hp, ht⟩
    · obtain ⟨j, hj, h2⟩ := List.getElem_of_mem h1
      rw [← h2]; exact hsm.2 j hj
theorem put_again {fs : List En} {e : En} (h : treeOk fs = true) (hm : e ∈ fs) : putL fs e = (fs, true) := by
  have hT := treeOk_is h
  obtain ⟨i, hi, rfl⟩ := List.getElem_of_mem hm
  have ha := atGo_mem hT.sorted hi
  rw [putL_set (hT.ok i hi) (hT.place i hi) ((there_mem hT.sorted _).2 ⟨_, List.getElem_mem hi, rfl⟩) ha hi rfl]
  rw [List.set_getElem_self]
set_option maxRecDepth 1000000 in
set_option maxHeartbeats 32000000 in
theorem law_FnTreePut (A0 : Option Addr) (n0 c0 : Nat) (w : World) (h0 : IsBytes w A0 n0 c0) :
    Calls Tryd.prog 9 #[.slice A0 n0 c0] w fun e w' => e = .returned (.bool true) ∧ Below w.heap.size w w' := by
  by_cases hn0 : n0 ≤ 1048576
  case neg =>
    go_enter Tryd.func9, Tryd.ntmps9
    go_wp2
    go_ret
    exact ⟨rfl, Below.refl _ _⟩
  go_enter Tryd.func9, Tryd.ntmps9
  go_wp2_with fail
  with_reducible refine (DrawTreePut_any A0 n0 c0 w h0).mono ?_
  rintro e w1 ⟨es, g, c, ⟨p0, k0, m0, t0⟩, hT, hx, rfl, hO, hC⟩
  have hsm := dr_small hT.2 (by have := hT.1; omega)
  have hcap := hO.parts.2.2.1
  have hlo := hO.parts.2.1
  have hl17 := hT.1
  have hE := Lib.hid hO.parts.1.ents
  replace hsm := Lib.hid hsm
  replace hT := Lib.hid hT
  clear hO
  have hpl : p0.length ≤ 1048576 := by have := hx.1.1; simp only at this; omega
  have htl : t0.length ≤ 1048576 := by have := hx.2.1; simp only at this; omega
  clear hx
  obtain ⟨⟨fs, b⟩, hpt⟩ : ∃ y, treePut es ⟨p0, k0, m0, t0⟩ = y := ⟨_, rfl⟩
  have hfl : fs.length ≤ 1048576 := by have := treePut_len es ⟨p0, k0, m0, t0⟩; rw [hpt] at this; simp only at this; omega
  replace hpt := Lib.hid hpt
  have hb1 : (b != b) = false := by simp
  have hb2 : (b == b) = true := by simp
  have hBn : Below w1.heap.size w1 (w1.alloc (.cells #[.string (mkB p0), .int .i64 k0, .int .i64 m0, .string (mkB t0)] 31)) := (Below.refl _ _).alloc (Nat.le_refl _) _
  have hnn := Box4.new w1 31 (.string (mkB p0)) (.int .i64 k0) (.int .i64 m0) (.string (mkB t0))
  have nwc0 := hnn.cell0
  have nwc1 := hnn.cell1
  have nwc2 := hnn.cell2
  have nwc3 := hnn.cell3
  clear hnn hBn
  go_wp2_with fail
  clear nwc0 nwc1 nwc2 nwc3
  obtain ⟨w2, hW⟩ : ∃ X, w1.alloc (.cells #[.string (mkB p0), .int .i64 k0, .int .i64 m0, .string (mkB t0)] 31) = X := ⟨_, rfl⟩
  have hB : Below w1.heap.size w1 w2 := by rw [← hW]; exact (Below.refl _ _).alloc (Nat.le_refl _) _
  obtain ⟨x4b, hx4b⟩ : ∃ x, w1.heap.size = x := ⟨_, rfl⟩
  have x4 : Box4 w2 x4b 31 (.string (mkB p0)) (.int .i64 k0) (.int .i64 m0) (.string (mkB t0)) := by rw [← hW, ← hx4b]; exact Box4.new _ _ _ _ _ _
  replace x4 := Lib.hid x4
  replace hC := hC.trans (hB.mono hC.size)
  replace hE := Lib.hid (hE.out.below hB hE.out.1)
  rw [hW, hx4b]
  clear hW hB hx4b
  have hcl := TreePut_c es ⟨p0, k0, m0, t0⟩ g c w2 hE.out hsm.out hcap hpl htl
  rw [hpt.out] at hcl
  refine hcl.mono ?_
  rintro e w3 ⟨hPA, hPc, rfl, hOO, hB⟩
  clear hcl
  replace hC := hC.trans (hB.mono hC.size)
  replace hE := Lib.hid (hE.out.below hB hE.out.1)
  replace x4 := Lib.hid (x4.out.below hB x4.out.lt)
  clear hB
  have hP := Lib.hid hOO.ine
  clear hOO
  have x4c0 := x4.out.cell0
  have x4c1 := x4.out.cell1
  have x4c2 := x4.out.cell2
  have x4c3 := x4.out.cell3
  go_wp2_with fail
  clear x4c0 x4c1 x4c2 x4c3
  have hcl := specTreePut_any es ⟨p0, k0, m0, t0⟩ g c w3 hE.out hsm.out hcap hpl htl
  rw [hpt.out] at hcl
  refine hcl.mono ?_
  rintro e w4 ⟨hQA, hQc, rfl, hOO, hB⟩
  clear hcl
  replace hC := hC.trans (hB.mono hC.size)
  replace hE := Lib.hid (hE.out.below hB hE.out.1)
  replace x4 := Lib.hid (x4.out.below hB x4.out.lt)
  replace hP := Lib.hid (hP.out.below hB)
  clear hB
  have hQ := Lib.hid hOO
  clear hOO
  go_wp2_with fail
  with_reducible refine (jsTree_sl fs _ _ _ _ w4 hP.out.sl hQ.out.sl hfl).mono ?_
  rintro e w5 ⟨rfl, hB⟩
  replace hC := hC.trans (hB.mono hC.size)
  replace hE := Lib.hid (hE.out.below hB hE.out.1)
  replace x4 := Lib.hid (x4.out.below hB x4.out.lt)
  replace hP := Lib.hid (hP.out.below hB)
  replace hQ := Lib.hid (hQ.out.below hB)
  clear hB
  rcases boolOf (treeOk es) with hok | hok
  · skip
    go_wp2_with fail
    with_reducible refine (TreeOk_any es g c w5 hE.out hsm.out hcap).mono ?_
    rintro e w6 ⟨rfl, hB⟩
    replace hC := hC.trans (hB.mono hC.size)
    replace hE := Lib.hid (hE.out.below hB hE.out.1)
    replace x4 := Lib.hid (x4.out.below hB x4.out.lt)
    replace hP := Lib.hid (hP.out.below hB)
    replace hQ := Lib.hid (hQ.out.below hB)
    clear hB
    rw [hok.out]
    go_wp2_with fail
    with_reducible refine (specTreeOk_any es g c w6 hE.out hsm.out).mono ?_
    rintro e w7 ⟨rfl, hB⟩
    replace hC := hC.trans (hB.mono hC.size)
    replace hE := Lib.hid (hE.out.below hB hE.out.1)
    replace x4 := Lib.hid (x4.out.below hB x4.out.lt)
    replace hP := Lib.hid (hP.out.below hB)
    replace hQ := Lib.hid (hQ.out.below hB)
    clear hB
    rw [hok.out]
    go_wp2_with fail
    with_reducible refine (specTreeOk_any es g c w7 hE.out hsm.out).mono ?_
    rintro e w8 ⟨rfl, hB⟩
    replace hC := hC.trans (hB.mono hC.size)
    replace hE := Lib.hid (hE.out.below hB hE.out.1)
    replace x4 := Lib.hid (x4.out.below hB x4.out.lt)
    replace hP := Lib.hid (hP.out.below hB)
    replace hQ := Lib.hid (hQ.out.below hB)
    clear hB
    rw [hok.out]
    go_wp2_with fail
    with_reducible refine (jsTree_sl fs _ _ _ _ w8 hP.out.sl hQ.out.sl hfl).mono ?_
    rintro e w9 ⟨rfl, hB⟩
    replace hC := hC.trans (hB.mono hC.size)
    replace hE := Lib.hid (hE.out.below hB hE.out.1)
    replace x4 := Lib.hid (x4.out.below hB x4.out.lt)
    replace hP := Lib.hid (hP.out.below hB)
    replace hQ := Lib.hid (hQ.out.below hB)
    clear hB
    go_wp2_with fail
    with_reducible refine (TreeOk_any es g c w9 hE.out hsm.out hcap).mono ?_
    rintro e w10 ⟨rfl, hB⟩
    replace hC := hC.trans (hB.mono hC.size)
    replace hE := Lib.hid (hE.out.below hB hE.out.1)
    replace x4 := Lib.hid (x4.out.below hB x4.out.lt)
    replace hP := Lib.hid (hP.out.below hB)
    replace hQ := Lib.hid (hQ.out.below hB)
    clear hB
    rw [hok.out]
    go_wp2_with fail
    with_reducible refine (specTreeOk_any es g c w10 hE.out hsm.out).mono ?_
    rintro e w11 ⟨rfl, hB⟩
    replace hC := hC.trans (hB.mono hC.size)
    replace hE := Lib.hid (hE.out.below hB hE.out.1)
    replace x4 := Lib.hid (x4.out.below hB x4.out.lt)
    replace hP := Lib.hid (hP.out.below hB)
    replace hQ := Lib.hid (hQ.out.below hB)
    clear hB
    rw [hok.out]
    go_wp2
    go_ret
    exact ⟨rfl, hC⟩
  go_wp2_with fail
  with_reducible refine (TreeOk_any es g c w5 hE.out hsm.out hcap).mono ?_
  rintro e w6 ⟨rfl, hB⟩
  replace hC := hC.trans (hB.mono hC.size)
  replace hE := Lib.hid (hE.out.below hB hE.out.1)
  replace x4 := Lib.hid (x4.out.below hB x4.out.lt)
  replace hP := Lib.hid (hP.out.below hB)
  replace hQ := Lib.hid (hQ.out.below hB)
  clear hB
  rw [hok.out]
  go_wp2_with fail
  with_reducible refine (specTreeOk_any es g c w6 hE.out hsm.out).mono ?_
  rintro e w7 ⟨rfl, hB⟩
  replace hC := hC.trans (hB.mono hC.size)
  replace hE := Lib.hid (hE.out.below hB hE.out.1)
  replace x4 := Lib.hid (x4.out.below hB x4.out.lt)
  replace hP := Lib.hid (hP.out.below hB)
  replace hQ := Lib.hid (hQ.out.below hB)
  clear hB
  rw [hok.out]
  go_wp2_with fail
  with_reducible refine (specTreeOk_any es g c w7 hE.out hsm.out).mono ?_
  rintro e w8 ⟨rfl, hB⟩
  replace hC := hC.trans (hB.mono hC.size)
  replace hE := Lib.hid (hE.out.below hB hE.out.1)
  replace x4 := Lib.hid (x4.out.below hB x4.out.lt)
  replace hP := Lib.hid (hP.out.below hB)
  replace hQ := Lib.hid (hQ.out.below hB)
  clear hB
  rw [hok.out]
  have hput : putL es ⟨p0, k0, m0, t0⟩ = (fs, b) := by rw [← treePut_ok hok.out]; exact hpt.out
  have hfsm := Lib.hid (put_small hok.out hsm.out hput hpl htl)
  clear hb1 hb2
  cases b with
  | false =>
    obtain rfl := putL_false hput
    clear hput
    go_wp2_with fail
    with_reducible refine (jsTree_sl fs _ _ _ _ w8 hP.out.sl (SlE.of hE.out) hfl).mono ?_
    rintro e w9 ⟨rfl, hB⟩
    replace hC := hC.trans (hB.mono hC.size)
    replace hE := Lib.hid (hE.out.below hB hE.out.1)
    replace x4 := Lib.hid (x4.out.below hB x4.out.lt)
    replace hP := Lib.hid (hP.out.below hB)
    replace hQ := Lib.hid (hQ.out.below hB)
    clear hB
    go_wp2
    go_ret
    exact ⟨rfl, hC⟩
  | true =>
    obtain ⟨hokf, _, hmem, hlen⟩ := putL_ok hok.out hput
    have hs1 := (treeOk_is hok.out).sorted
    have hs2 := (treeOk_is hokf).sorted
    have hin : (⟨p0, k0, m0, t0⟩ : En) ∈ fs := (hmem _).2 (.inl rfl)
    have hg0 : treeGet fs p0 = some ⟨p0, k0, m0, t0⟩ := by rw [treeGet_ok hokf]; exact getAt_self hs2 hin
    have hgk : ∀ k (hk : k < es.length), es[k].path ≠ p0 → treeGet fs es[k].path = some es[k] := fun k hk hne => by rw [treeGet_ok hokf]; exact getAt_self hs2 ((hmem _).2 (.inr ⟨List.getElem_mem hk, hne⟩))
    have hag : treePut fs ⟨p0, k0, m0, t0⟩ = (fs, true) := by rw [treePut_ok hokf]; exact put_again hokf hin
    obtain ⟨i2, hi2, -⟩ := List.getElem_of_mem hin
    obtain ⟨g2, rfl, hE2, hcap2⟩ := hP.out.posD hi2
    replace hE2 := Lib.hid hE2
    replace hokf := Lib.hid hokf
    replace hgk := Lib.hid hgk
    replace hg0 := Lib.hid hg0
    replace hag := Lib.hid hag
    replace hmem := Lib.hid hmem
    replace hin := Lib.hid hin
    clear hput hi2 hP hs1 hs2
    have x4c0 := x4.out.cell0
    have x4c1 := x4.out.cell1
    have x4c2 := x4.out.cell2
    have x4c3 := x4.out.cell3
    go_wp2_with fail
    clear x4c0 x4c1 x4c2 x4c3
    with_reducible refine (TreeGet_any fs p0 g2 hPc w8 hE2.out hfsm.out hcap2 hpl).mono ?_
    rintro e w9 ⟨rfl, hB⟩
    replace hC := hC.trans (hB.mono hC.size)
    replace hE := Lib.hid (hE.out.below hB hE.out.1)
    replace x4 := Lib.hid (x4.out.below hB x4.out.lt)
    replace hQ := Lib.hid (hQ.out.below hB)
    replace hE2 := Lib.hid (hE2.out.below hB hE2.out.1)
    clear hB
    rw [hg0.out]
    simp only [entV]
    have hBn : Below w9.heap.size w9 (w9.alloc (.cells #[.string (mkB p0), .int .i64 k0, .int .i64 m0, .string (mkB t0)] 31)) := (Below.refl _ _).alloc (Nat.le_refl _) _
    have hnn := x4.out.below hBn x4.out.lt
    have x4c0 := hnn.cell0
    have x4c1 := hnn.cell1
    have x4c2 := hnn.cell2
    have x4c3 := hnn.cell3
    clear hnn
    have hnn := Box4.new w9 31 (.string (mkB p0)) (.int .i64 k0) (.int .i64 m0) (.string (mkB t0))
    have nwc0 := hnn.cell0
    have nwc1 := hnn.cell1
    have nwc2 := hnn.cell2
    have nwc3 := hnn.cell3
    clear hnn hBn
    go_wp2_with fail
    clear x4c0 x4c1 x4c2 x4c3 nwc0 nwc1 nwc2 nwc3
    obtain ⟨w10, hW⟩ : ∃ X, w9.alloc (.cells #[.string (mkB p0), .int .i64 k0, .int .i64 m0, .string (mkB t0)] 31) = X := ⟨_, rfl⟩
    have hB : Below w9.heap.size w9 w10 := by rw [← hW]; exact (Below.refl _ _).alloc (Nat.le_refl _) _
    obtain ⟨x9b, hx9b⟩ : ∃ x, w9.heap.size = x := ⟨_, rfl⟩
    have x9 : Box4 w10 x9b 31 (.string (mkB p0)) (.int .i64 k0) (.int .i64 m0) (.string (mkB t0)) := by rw [← hW, ← hx9b]; exact Box4.new _ _ _ _ _ _
    replace x9 := Lib.hid x9
    replace hC := hC.trans (hB.mono hC.size)
    replace hE := Lib.hid (hE.out.below hB hE.out.1)
    replace x4 := Lib.hid (x4.out.below hB x4.out.lt)
    replace hQ := Lib.hid (hQ.out.below hB)
    replace hE2 := Lib.hid (hE2.out.below hB hE2.out.1)
    rw [hW, hx9b]
    clear hW hB hx9b
    have hcl := TreePut_any fs ⟨p0, k0, m0, t0⟩ g2 hPc w10 hE2.out hfsm.out hcap2 hpl htl
    rw [hag.out] at hcl
    refine hcl.mono ?_
    rintro e w11 ⟨A5, c5, rfl, hOO, hB⟩
    clear hcl
    replace hC := hC.trans (hB.mono hC.size)
    replace hE := Lib.hid (hE.out.below hB hE.out.1)
    replace x4 := Lib.hid (x4.out.below hB x4.out.lt)
    replace hQ := Lib.hid (hQ.out.below hB)
    replace hE2 := Lib.hid (hE2.out.below hB hE2.out.1)
    replace x9 := Lib.hid (x9.out.below hB x9.out.lt)
    clear hB
    obtain ⟨lo5, hlo5⟩ : ∃ x, x = w10.heap.size := ⟨_, rfl⟩
    rw [← hlo5] at hOO
    have hR := Lib.hid hOO
    clear hOO hlo5 hQ
    go_wp2
    go_loopw [13] (fun ii wr => ∃ k : Nat, k ≤ es.length ∧ ii = .int .i64 k ∧ Hid (Ents wr g es) ∧ Hid (Ents wr g2 fs) ∧ Hid (OwnE wr lo5 A5 fs) ∧ Hid (Box4 wr x4b 31 (.string (mkB p0)) (.int .i64 k0) (.int .i64 m0) (.string (mkB t0))) ∧ Hid (Box4 wr x9b 31 (.string (mkB p0)) (.int .i64 k0) (.int .i64 m0) (.string (mkB t0))) ∧ Below w.heap.size w wr) (fun ii _ => es.length - (intOf ii).toNat)
    case atStart => exact ⟨0, Nat.zero_le _, rfl, hE, hE2, hR, x4, x9, hC⟩
    case round =>
      clear hE hE2 hR x4 x9 hC
      obtain ⟨k, hk, rfl, hE, hE2, hR, x4, x9, hC⟩ := hrel
      by_cases hlt : k < es.length
      · obtain ⟨w12, hwr⟩ : ∃ x, x = wr := ⟨_, rfl⟩
        subst hwr
        have hkI : (k : Int) < (es.length : Int) := by omega
        obtain ⟨q, hq⟩ : ∃ x, es[k].path = x := ⟨_, rfl⟩
        by_cases hqe : q = p0
        · have hql : (q == p0) = true := by rw [hqe]; simp
          have hqn : (q != p0) = false := by rw [hqe]; simp
          have hqlen := (hsm.out.2 k hlt).1
          rw [hq] at hqlen
          replace hq := Lib.hid hq
          replace hqe := Lib.hid hqe
          obtain ⟨c0, c1', c2, c3⟩ := hE.out.2 k hlt
          rw [hq.out] at c0
          go_wp2_with fail
          clear c0 c1' c2 c3
          with_reducible refine (TreeGet_any fs q g2 hPc w12 hE2.out hfsm.out hcap2 hqlen).mono ?_
          rintro e w13 ⟨rfl, hB⟩
          replace hC := hC.trans (hB.mono hC.size)
          replace hE := Lib.hid (hE.out.below hB hE.out.1)
          replace x4 := Lib.hid (x4.out.below hB x4.out.lt)
          replace hE2 := Lib.hid (hE2.out.below hB hE2.out.1)
          replace x9 := Lib.hid (x9.out.below hB x9.out.lt)
          replace hR := Lib.hid (hR.out.below hB)
          clear hB
          rw [show treeGet fs q = some ⟨p0, k0, m0, t0⟩ by rw [hqe.out]; exact hg0.out]
          simp only [entV]
          have hBn : Below w13.heap.size w13 (w13.alloc (.cells #[.string (mkB p0), .int .i64 k0, .int .i64 m0, .string (mkB t0)] 31)) := (Below.refl _ _).alloc (Nat.le_refl _) _
          have hnn := x4.out.below hBn x4.out.lt
          have x4c0 := hnn.cell0
          have x4c1 := hnn.cell1
          have x4c2 := hnn.cell2
          have x4c3 := hnn.cell3
          clear hnn
          have hnn := Box4.new w13 31 (.string (mkB p0)) (.int .i64 k0) (.int .i64 m0) (.string (mkB t0))
          have nwc0 := hnn.cell0
          have nwc1 := hnn.cell1
          have nwc2 := hnn.cell2
          have nwc3 := hnn.cell3
          clear hnn hBn
          have hBn : Below w13.heap.size w13 (w13.alloc (.cells #[.string (mkB p0), .int .i64 k0, .int .i64 m0, .string (mkB t0)] 31)) := (Below.refl _ _).alloc (Nat.le_refl _) _
          obtain ⟨c0, c1', c2, c3⟩ := (hE.out.below hBn hE.out.1).2 k hlt
          rw [hq.out] at c0
          clear hBn
          have y0 := (hE.out.2 k hlt).1
          rw [hq.out] at y0
          skip
          go_wp2_with fail
          clear x4c0 x4c1 x4c2 x4c3 nwc0 nwc1 nwc2 nwc3
          clear c0 c1' c2 c3 y0
          obtain ⟨w14, hW⟩ : ∃ X, w13.alloc (.cells #[.string (mkB p0), .int .i64 k0, .int .i64 m0, .string (mkB t0)] 31) = X := ⟨_, rfl⟩
          have hB : Below w13.heap.size w13 w14 := by rw [← hW]; exact (Below.refl _ _).alloc (Nat.le_refl _) _
          obtain ⟨x14b, hx14b⟩ : ∃ x, w13.heap.size = x := ⟨_, rfl⟩
          have x14 : Box4 w14 x14b 31 (.string (mkB p0)) (.int .i64 k0) (.int .i64 m0) (.string (mkB t0)) := by rw [← hW, ← hx14b]; exact Box4.new _ _ _ _ _ _
          replace x14 := Lib.hid x14
          replace hC := hC.trans (hB.mono hC.size)
          replace hE := Lib.hid (hE.out.below hB hE.out.1)
          replace x4 := Lib.hid (x4.out.below hB x4.out.lt)
          replace hE2 := Lib.hid (hE2.out.below hB hE2.out.1)
          replace x9 := Lib.hid (x9.out.below hB x9.out.lt)
          replace hR := Lib.hid (hR.out.below hB)
          rw [hW, hx14b]
          clear hW hB hx14b
          have x4c0 := x4.out.cell0
          have x4c1 := x4.out.cell1
          have x4c2 := x4.out.cell2
          have x4c3 := x4.out.cell3
          have x14c0 := x14.out.cell0
          have x14c1 := x14.out.cell1
          have x14c2 := x14.out.cell2
          have x14c3 := x14.out.cell3
          obtain ⟨c0, c1', c2, c3⟩ := hE.out.2 k hlt
          rw [hq.out] at c0
          go_region
          all_goals go_wp2
          all_goals go_round
          all_goals first
            | exact ⟨k + 1, by omega, by go_num, hE, hE2, hR, x4, x9, hC.drew⟩
            | (simp [intOf]; omega)
        · have hql : (q == p0) = false := by simp [hqe]
          have hqn : (q != p0) = true := by simp [hqe]
          have hgz := hgk.out k hlt (by rw [hq]; exact hqe)
          obtain ⟨x, hxe⟩ : ∃ x, es[k] = x := ⟨_, rfl⟩
          rw [hq, hxe] at hgz
          have hqx : x.path = q := by rw [← hxe]; exact hq
          obtain ⟨p1, k1, m1, t1⟩ := x
          simp only at hqx
          subst hqx
          replace hgz := Lib.hid hgz
          replace hxe := Lib.hid hxe
          have hqlen := (hsm.out.2 k hlt).1
          rw [hxe.out] at hqlen
          simp only at hqlen
          clear hq
          replace hqe := Lib.hid hqe
          obtain ⟨c0, c1', c2, c3⟩ := hE.out.2 k hlt
          rw [hxe.out] at c0 c1' c2 c3
          go_wp2_with fail
          clear c0 c1' c2 c3
          with_reducible refine (TreeGet_any fs p1 g2 hPc w12 hE2.out hfsm.out hcap2 hqlen).mono ?_
          rintro e w13 ⟨rfl, hB⟩
          replace hC := hC.trans (hB.mono hC.size)
          replace hE := Lib.hid (hE.out.below hB hE.out.1)
          replace x4 := Lib.hid (x4.out.below hB x4.out.lt)
          replace hE2 := Lib.hid (hE2.out.below hB hE2.out.1)
          replace x9 := Lib.hid (x9.out.below hB x9.out.lt)
          replace hR := Lib.hid (hR.out.below hB)
          clear hB
          rw [hgz.out]
          simp only [entV]
          have hnq1 := neqD_cells p1 p1 k1 m1 k1 m1 t1 t1 (sameE_refl _)
          have hgd1 := fun op x y => guardD_cells op x y p1 p1 k1 m1 k1 m1 t1 t1
          go_wp2_with fail
          obtain ⟨w14, hW⟩ : ∃ X, w13.alloc (.cells #[.string (mkB p1), .int .i64 k1, .int .i64 m1, .string (mkB t1)] 31) = X := ⟨_, rfl⟩
          have hB : Below w13.heap.size w13 w14 := by rw [← hW]; exact (Below.refl _ _).alloc (Nat.le_refl _) _
          obtain ⟨x14b, hx14b⟩ : ∃ x, w13.heap.size = x := ⟨_, rfl⟩
          have x14 : Box4 w14 x14b 31 (.string (mkB p1)) (.int .i64 k1) (.int .i64 m1) (.string (mkB t1)) := by rw [← hW, ← hx14b]; exact Box4.new _ _ _ _ _ _
          replace x14 := Lib.hid x14
          replace hC := hC.trans (hB.mono hC.size)
          replace hE := Lib.hid (hE.out.below hB hE.out.1)
          replace x4 := Lib.hid (x4.out.below hB x4.out.lt)
          replace hE2 := Lib.hid (hE2.out.below hB hE2.out.1)
          replace x9 := Lib.hid (x9.out.below hB x9.out.lt)
          replace hR := Lib.hid (hR.out.below hB)
          rw [hW, hx14b]
          clear hW hB hx14b
          have x4c0 := x4.out.cell0
          have x4c1 := x4.out.cell1
          have x4c2 := x4.out.cell2
          have x4c3 := x4.out.cell3
          have x14c0 := x14.out.cell0
          have x14c1 := x14.out.cell1
          have x14c2 := x14.out.cell2
          have x14c3 := x14.out.cell3
          obtain ⟨c0, c1', c2, c3⟩ := hE.out.2 k hlt
          rw [hxe.out] at c0 c1' c2 c3
          go_region
          all_goals go_wp2
          all_goals go_round
          all_goals first
            | exact ⟨k + 1, by omega, by go_num, hE, hE2, hR, x4, x9, hC.drew⟩
            | (simp [intOf]; omega)
      · obtain rfl : k = es.length := by omega
        obtain ⟨w12, hwr⟩ : ∃ x, x = wr := ⟨_, rfl⟩
        subst hwr
        have hlenI : (fs.length : Int) ≤ (es.length : Int) + 1 := by omega
        have hnq0_0 := neqD_cells p0 p0 k0 m0 k0 m0 t0 t0 (sameE_refl _)
        have heq0_0 := eqlE_cells p0 p0 k0 m0 k0 m0 t0 t0 (sameE_refl _)
        have hgd0_0 := fun op x y => guardD_cells op x y p0 p0 k0 m0 k0 m0 t0 t0
        go_wp2_with fail
        with_reducible refine (TreeOk_any fs g2 hPc w12 hE2.out hfsm.out hcap2).mono ?_
        rintro e w13 ⟨rfl, hB⟩
        replace hC := hC.trans (hB.mono hC.size)
        replace hE := Lib.hid (hE.out.below hB hE.out.1)
        replace x4 := Lib.hid (x4.out.below hB x4.out.lt)
        replace hE2 := Lib.hid (hE2.out.below hB hE2.out.1)
        replace x9 := Lib.hid (x9.out.below hB x9.out.lt)
        replace hR := Lib.hid (hR.out.below hB)
        clear hB
        rw [hokf.out]
        have x4c0 := x4.out.cell0
        have x4c1 := x4.out.cell1
        have x4c2 := x4.out.cell2
        have x4c3 := x4.out.cell3
        have x9c0 := x9.out.cell0
        have x9c1 := x9.out.cell1
        have x9c2 := x9.out.cell2
        have x9c3 := x9.out.cell3
        go_wp2_with fail
        clear x4c0 x4c1 x4c2 x4c3 x9c0 x9c1 x9c2 x9c3
        with_reducible refine (jsTree_sl fs _ _ _ _ w13 hR.out.sl (SlE.of hE2.out) hfl).mono ?_
        rintro e w14 ⟨rfl, hB⟩
        replace hC := hC.trans (hB.mono hC.size)
        replace hE := Lib.hid (hE.out.below hB hE.out.1)
        replace x4 := Lib.hid (x4.out.below hB x4.out.lt)
        replace hE2 := Lib.hid (hE2.out.below hB hE2.out.1)
        replace x9 := Lib.hid (x9.out.below hB x9.out.lt)
        replace hR := Lib.hid (hR.out.below hB)
        clear hB
        go_wp2
        go_ret
        exact ⟨rfl, hC⟩
end Go.Proofs.YtjihpbioofikcaaDoor
