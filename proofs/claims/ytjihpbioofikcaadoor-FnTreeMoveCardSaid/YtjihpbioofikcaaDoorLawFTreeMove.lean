/-
  The law FnTreeMove, walked.
-/
import Derived.Test.YtjihpbioofikcaaDoorMoveF
import Derived.Test.YtjihpbioofikcaaDoorMoveK
import Derived.Test.YtjihpbioofikcaaDoorPutC
namespace Go.Proofs.YtjihpbioofikcaaDoor
open Go.RowKit
set_option linter.unusedVariables false
set_option linter.unusedSimpArgs false
attribute [local go_sem] mkB_size mkB_extract mkB_get mkB_append mkB_append_raw raw_append_mkB mkB_toList

theorem InE.posM {w : World} {A : Option Addr} {c : Nat} {es : List En} (h : InE w A c es) (hk : 0 < es.length) : ∃ g, A = some ⟨g, 0, none⟩ ∧ Ents w g es ∧ es.length ≤ c := by
  rcases h with ⟨_, _, h⟩ | h
  · rw [h] at hk; simp at hk
  · exact h
theorem below_alloc2 {w W : World} (h : Below w.heap.size w W) (o : Obj) : Below w.heap.size w (W.alloc o) := h.alloc h.size o
theorem move_small {es fs : List En} {s t : List UInt8} (hok : treeOk es = true) (hsm : Small es) (h : treeMove es s t = (fs, true)) : Small fs := by
  obtain ⟨hM, rfl⟩ := treeMove_mv hok h
  refine ⟨by have := (treeOk_is hM.ok).len; omega, fun i hi => ?_⟩
  obtain ⟨e, he, hx⟩ := moved_mem.1 (List.getElem_mem hi)
  have h1 := pathOk_len (ok_path hM.ok (List.getElem_mem hi))
  refine ⟨by omega, ?_⟩
  rw [← hx, (moveE_kind e).2.2]
  obtain ⟨j, hj, rfl⟩ := List.getElem_of_mem he
  exact (hsm.2 j hj).2
theorem move_path {es : List En} {s t : List UInt8} (hM : Mv es s t) {e : En} (he : e ∈ es) (hb : below s e.path = true) : pathMove e.path s t = (moveE s t e).path := by
  have hall := hM.all
  unfold movesOk at hall
  rw [List.all_eq_true] at hall
  have h := hall e he
  rw [moveE_yes hb] at h ⊢
  rw [pathMove_is hM.tree hM.parts.1 (ok_path hM.tree he) hM.parts.2.2.1 hb]
  simp only at h
  rw [if_pos h]
set_option maxRecDepth 1000000 in
set_option maxHeartbeats 32000000 in
theorem law_FnTreeMove (A0 : Option Addr) (n0 c0 : Nat) (w : World) (h0 : IsBytes w A0 n0 c0) :
    Calls Tryd.prog 14 #[.slice A0 n0 c0] w fun e w' => e = .returned (.bool true) ∧ Below w.heap.size w w' := by
  by_cases hn0 : n0 ≤ 1048576
  case neg =>
    go_enter Tryd.func14, Tryd.ntmps14
    go_wp2
    go_ret
    exact ⟨rfl, Below.refl _ _⟩
  go_enter Tryd.func14, Tryd.ntmps14
  go_wp2_with fail
  with_reducible refine (DrawTreeMove_any A0 n0 c0 w h0).mono ?_
  rintro e w1 ⟨es, g, c, s, t, hT, hs, ht, rfl, hO, hC⟩
  have hsm := dr_small hT.2 (by have := hT.1; omega)
  have hcap := hO.parts.2.2.1
  have hlo := hO.parts.2.1
  have hl17 := hT.1
  have hE := Lib.hid hO.parts.1.ents
  replace hsm := Lib.hid hsm
  replace hT := Lib.hid hT
  clear hO
  have hsl : s.length ≤ 100 := hs.1
  have htl : t.length ≤ 100 := ht.1
  obtain ⟨⟨fs, b⟩, hx⟩ : ∃ x, treeMove es s t = x := ⟨_, rfl⟩
  have hfl : fs.length ≤ 1048576 := by have := moveLen es s t; rw [hx] at this; exact this
  replace hx := Lib.hid hx
  go_wp2_with fail
  have hcl := TreeMove_both es s t g c w1 hE.out hsm.out hcap (by omega) (by omega)
  rw [hx.out] at hcl
  refine hcl.mono ?_
  rintro e w2 ⟨hPA, hPc, rfl, hOw, hB, hOO⟩
  clear hcl
  replace hC := hC.trans (hB.mono hC.size)
  replace hE := Lib.hid (hE.out.below hB hE.out.1)
  clear hB
  have hP := Lib.hid hOO
  clear hOO
  clear hOw
  go_wp2_with fail
  with_reducible refine (specTreeMove_g hx.out g c w2 hE.out hsm.out hcap (by omega) (by omega)).mono ?_
  rintro e w3 ⟨hQA, hQc, rfl, hQO, hB⟩
  replace hC := hC.trans (hB.mono hC.size)
  replace hE := Lib.hid (hE.out.below hB hE.out.1)
  replace hP := Lib.hid (hP.out.below hB)
  clear hB
  have hQ := Lib.hid hQO
  clear hQO
  have hb1 : (b != b) = false := by simp
  have hb2 : (b == b) = true := by simp
  go_wp2_with fail
  with_reducible refine (jsTree_sl fs _ _ _ _ w3 hP.out.sl hQ.out.sl hfl).mono ?_
  rintro e w4 ⟨rfl, hB⟩
  replace hC := hC.trans (hB.mono hC.size)
  replace hE := Lib.hid (hE.out.below hB hE.out.1)
  replace hP := Lib.hid (hP.out.below hB)
  replace hQ := Lib.hid (hQ.out.below hB)
  clear hB
  go_wp2_with fail
  with_reducible refine (specTreeOk_any es g c w4 hE.out hsm.out).mono ?_
  rintro e w5 ⟨rfl, hB⟩
  replace hC := hC.trans (hB.mono hC.size)
  replace hE := Lib.hid (hE.out.below hB hE.out.1)
  replace hP := Lib.hid (hP.out.below hB)
  replace hQ := Lib.hid (hQ.out.below hB)
  clear hB
  rcases boolOf (treeOk es) with hok | hok
  · rw [hok.out]
    go_wp2_with fail
    with_reducible refine (jsTree_sl fs _ _ _ _ w5 hP.out.sl hQ.out.sl hfl).mono ?_
    rintro e w6 ⟨rfl, hB⟩
    replace hC := hC.trans (hB.mono hC.size)
    replace hE := Lib.hid (hE.out.below hB hE.out.1)
    replace hP := Lib.hid (hP.out.below hB)
    replace hQ := Lib.hid (hQ.out.below hB)
    clear hB
    go_wp2
    go_ret
    exact ⟨rfl, hC⟩
  rw [hok.out]
  clear hb1 hb2 hQ
  cases b with
  | false =>
    have hfe := treeMove_false hok.out hx.out
    subst hfe
    go_wp2_with fail
    with_reducible refine (jsTree_sl fs _ _ _ _ w5 hP.out.sl (SlE.of hE.out) hfl).mono ?_
    rintro e w6 ⟨rfl, hB⟩
    replace hC := hC.trans (hB.mono hC.size)
    replace hE := Lib.hid (hE.out.below hB hE.out.1)
    replace hP := Lib.hid (hP.out.below hB)
    clear hB
    go_wp2
    go_ret
    exact ⟨rfl, hC⟩
  | true =>
    obtain ⟨hokf, hgone, hlen, hback, hget⟩ := move_law hok.out hx.out
    have hM := (treeMove_mv hok.out hx.out).1
    have hfsm := move_small hok.out hsm.out hx.out
    have hpos : 0 < fs.length := by
      rw [hlen]
      obtain ⟨hk, _⟩ := there_iff.1 hM.parts.1
      omega
    obtain ⟨g2, rfl, hE2, hcap2⟩ := hP.out.posM hpos
    clear hP
    have hgn : treeGet fs s = none := by rw [treeGet_ok hokf]; exact getAt_no hgone
    have hlenI : ((fs.length : Int) == (es.length : Int)) = true := by rw [hlen]; simp
    replace hE2 := Lib.hid hE2
    replace hokf := Lib.hid hokf
    replace hgone := Lib.hid hgone
    replace hlen := Lib.hid hlen
    replace hback := Lib.hid hback
    replace hget := Lib.hid hget
    replace hM := Lib.hid hM
    replace hfsm := Lib.hid hfsm
    replace hgn := Lib.hid hgn
    go_wp2_with fail
    have hcl := TreeMove_any fs t s g2 hPc w5 hE2.out hfsm.out hcap2 (by omega) (by omega)
    rw [hback.out] at hcl
    refine hcl.mono ?_
    rintro e w6 ⟨A5, c5, rfl, hOO, hB⟩
    clear hcl
    replace hC := hC.trans (hB.mono hC.size)
    replace hE := Lib.hid (hE.out.below hB hE.out.1)
    replace hE2 := Lib.hid (hE2.out.below hB hE2.out.1)
    clear hB
    obtain ⟨lo5, hlo5⟩ : ∃ x, x = w5.heap.size := ⟨_, rfl⟩
    rw [← hlo5] at hOO
    have hR := Lib.hid hOO
    clear hOO hlo5
    go_wp2_with fail
    with_reducible refine (TreeGet_any fs s g2 hPc w6 hE2.out hfsm.out hcap2 (by omega)).mono ?_
    rintro e w7 ⟨rfl, hB⟩
    replace hC := hC.trans (hB.mono hC.size)
    replace hE := Lib.hid (hE.out.below hB hE.out.1)
    replace hE2 := Lib.hid (hE2.out.below hB hE2.out.1)
    replace hR := Lib.hid (hR.out.below hB)
    clear hB
    rw [hgn.out]
    simp only [entV]
    obtain ⟨bx, hbx⟩ : ∃ x, w7.heap.size = x := ⟨_, rfl⟩
    have hC' := below_alloc2 hC (.cells #[.string { data := #[] }, .int .i64 0, .int .i64 0, .string { data := #[] }] 31)
    have hE' := Lib.hid (hE.out.alloc (.cells #[.string { data := #[] }, .int .i64 0, .int .i64 0, .string { data := #[] }] 31))
    have hE2' := Lib.hid (hE2.out.alloc (.cells #[.string { data := #[] }, .int .i64 0, .int .i64 0, .string { data := #[] }] 31))
    have hR' := Lib.hid (hR.out.below ((Below.refl _ _).alloc (Nat.le_refl _) (.cells #[.string { data := #[] }, .int .i64 0, .int .i64 0, .string { data := #[] }] 31)))
    clear hbx
    go_wp2
    go_loopw [14] (fun ii wr => ∃ k : Nat, k ≤ es.length ∧ ii = .int .i64 k ∧ Hid (Ents wr g es) ∧ Hid (Ents wr g2 fs) ∧ Hid (OwnE wr lo5 A5 es) ∧ Below w.heap.size w wr) (fun ii _ => es.length - (intOf ii).toNat)
    case atStart => exact ⟨0, Nat.zero_le _, rfl, hE', hE2', hR', hC'⟩
    case round =>
      clear hE hE2 hR hC hE' hE2' hR' hC'
      obtain ⟨k, hk, rfl, hE, hE2, hR, hC⟩ := hrel
      by_cases hlt : k < es.length
      · obtain ⟨w8, hwr⟩ : ∃ x, x = wr := ⟨_, rfl⟩
        subst hwr
        have hkI : (k : Int) < (es.length : Int) := by omega
        have hmem : es[k] ∈ es := List.getElem_mem hlt
        have hgz := hget.out _ hmem
        have hpin := pathIn_tree hM.out.tree hM.out.parts.1 (ok_path hM.out.tree hmem)
        have hmp : below s es[k].path = true → pathMove es[k].path s t = (moveE s t es[k]).path := fun hb => move_path hM.out hmem hb
        have hmn : below s es[k].path = false → moveE s t es[k] = es[k] := fun hb => moveE_no hb
        have hkd := moveE_kind (f := s) (t := t) es[k]
        have hplen := (hsm.out.2 k hlt).1
        have hqlen : (moveE s t es[k]).path.length ≤ 1048576 := by
          have h1 := hM.out.all
          unfold movesOk at h1
          rw [List.all_eq_true] at h1
          have := pathOk_len (h1 _ hmem)
          omega
        obtain ⟨x, hxe⟩ : ∃ x, es[k] = x := ⟨_, rfl⟩
        rw [hxe] at hgz hpin hmp hmn hkd hplen hqlen hmem
        obtain ⟨p1, k1, m1, t1⟩ := x
        simp only at hgz hpin hmp hmn hkd hplen
        obtain ⟨⟨q, k2, m2, t2⟩, hme⟩ : ∃ y, moveE s t ⟨p1, k1, m1, t1⟩ = y := ⟨_, rfl⟩
        rw [hme] at hgz hmp hmn hkd hqlen
        simp only at hgz hmp hkd hqlen
        obtain ⟨rfl, rfl, rfl⟩ := hkd
        rw [← treeGet_ok hokf.out] at hgz
        obtain ⟨c0, c1', c2, c3⟩ := hE.out.2 k hlt
        rw [hxe] at c0 c1' c2 c3
        replace hgz := Lib.hid hgz
        replace hpin := Lib.hid hpin
        replace hmp := Lib.hid hmp
        replace hmn := Lib.hid hmn
        replace hme := Lib.hid hme
        replace hmem := Lib.hid hmem
        replace hxe := Lib.hid hxe
        go_wp2_with fail
        clear c0 c1' c2 c3
        refine (PathIn_any s p1 (by omega) (by omega) w8).mono ?_
        rintro e w9 ⟨rfl, hB⟩
        replace hC := hC.trans (hB.mono hC.size)
        replace hE := Lib.hid (hE.out.below hB hE.out.1)
        replace hE2 := Lib.hid (hE2.out.below hB hE2.out.1)
        replace hR := Lib.hid (hR.out.below hB)
        clear hB
        rw [hpin.out]
        rcases boolOf (below s p1) with hb | hb
        · rw [hb.out]
          have hqe : q = p1 := by have := hmn.out hb.out; injection this
          subst hqe
          go_wp2_with fail
          with_reducible refine (TreeGet_any fs q g2 hPc w9 hE2.out hfsm.out hcap2 hqlen).mono ?_
          rintro e w10 ⟨rfl, hB⟩
          replace hC := hC.trans (hB.mono hC.size)
          replace hE := Lib.hid (hE.out.below hB hE.out.1)
          replace hE2 := Lib.hid (hE2.out.below hB hE2.out.1)
          replace hR := Lib.hid (hR.out.below hB)
          clear hB
          rw [hgz.out]
          simp only [entV]
          go_wp2_with fail
          obtain ⟨w11, hW⟩ : ∃ X, w10.alloc (.cells #[.string (mkB q), .int .i64 k2, .int .i64 m2, .string (mkB t2)] 31) = X := ⟨_, rfl⟩
          have hB : Below w10.heap.size w10 w11 := by rw [← hW]; exact (Below.refl _ _).alloc (Nat.le_refl _) _
          obtain ⟨x16b, hx16b⟩ : ∃ x, w10.heap.size = x := ⟨_, rfl⟩
          have x16 : Box4 w11 x16b 31 (.string (mkB q)) (.int .i64 k2) (.int .i64 m2) (.string (mkB t2)) := by rw [← hW, ← hx16b]; exact Box4.new _ _ _ _ _ _
          replace x16 := Lib.hid x16
          replace hC := hC.trans (hB.mono hC.size)
          replace hE := Lib.hid (hE.out.below hB hE.out.1)
          replace hE2 := Lib.hid (hE2.out.below hB hE2.out.1)
          replace hR := Lib.hid (hR.out.below hB)
          rw [hW, hx16b]
          clear hW hB hx16b
          have x16c0 := x16.out.cell0
          have x16c1 := x16.out.cell1
          have x16c2 := x16.out.cell2
          have x16c3 := x16.out.cell3
          obtain ⟨c0, c1', c2, c3⟩ := hE.out.2 k hlt
          rw [hxe.out] at c0 c1' c2 c3
          go_region
          all_goals go_wp2
          all_goals go_round
          all_goals first
            | exact ⟨k + 1, by omega, by go_num, hE, hE2, hR, hC.drew⟩
            | (simp [intOf]; omega)
        · rw [hb.out]
          have hpm := Lib.hid (hmp.out hb.out)
          go_wp2_with fail
          with_reducible refine (PathMove_any p1 s t (by omega) (by omega) (by omega) w9).mono ?_
          rintro e w10 ⟨rfl, hB⟩
          replace hC := hC.trans (hB.mono hC.size)
          replace hE := Lib.hid (hE.out.below hB hE.out.1)
          replace hE2 := Lib.hid (hE2.out.below hB hE2.out.1)
          replace hR := Lib.hid (hR.out.below hB)
          clear hB
          rw [hpm.out]
          go_wp2_with fail
          with_reducible refine (TreeGet_any fs q g2 hPc w10 hE2.out hfsm.out hcap2 hqlen).mono ?_
          rintro e w11 ⟨rfl, hB⟩
          replace hC := hC.trans (hB.mono hC.size)
          replace hE := Lib.hid (hE.out.below hB hE.out.1)
          replace hE2 := Lib.hid (hE2.out.below hB hE2.out.1)
          replace hR := Lib.hid (hR.out.below hB)
          clear hB
          rw [hgz.out]
          simp only [entV]
          go_wp2_with fail
          obtain ⟨w12, hW⟩ : ∃ X, w11.alloc (.cells #[.string (mkB q), .int .i64 k2, .int .i64 m2, .string (mkB t2)] 31) = X := ⟨_, rfl⟩
          have hB : Below w11.heap.size w11 w12 := by rw [← hW]; exact (Below.refl _ _).alloc (Nat.le_refl _) _
          obtain ⟨x16b, hx16b⟩ : ∃ x, w11.heap.size = x := ⟨_, rfl⟩
          have x16 : Box4 w12 x16b 31 (.string (mkB q)) (.int .i64 k2) (.int .i64 m2) (.string (mkB t2)) := by rw [← hW, ← hx16b]; exact Box4.new _ _ _ _ _ _
          replace x16 := Lib.hid x16
          replace hC := hC.trans (hB.mono hC.size)
          replace hE := Lib.hid (hE.out.below hB hE.out.1)
          replace hE2 := Lib.hid (hE2.out.below hB hE2.out.1)
          replace hR := Lib.hid (hR.out.below hB)
          rw [hW, hx16b]
          clear hW hB hx16b
          have x16c0 := x16.out.cell0
          have x16c1 := x16.out.cell1
          have x16c2 := x16.out.cell2
          have x16c3 := x16.out.cell3
          obtain ⟨c0, c1', c2, c3⟩ := hE.out.2 k hlt
          rw [hxe.out] at c0 c1' c2 c3
          go_region
          all_goals go_wp2
          all_goals go_round
          all_goals first
            | exact ⟨k + 1, by omega, by go_num, hE, hE2, hR, hC.drew⟩
            | (simp [intOf]; omega)
      · obtain rfl : k = es.length := by omega
        obtain ⟨w8, hwr⟩ : ∃ x, x = wr := ⟨_, rfl⟩
        subst hwr
        go_wp2_with fail
        with_reducible refine (TreeOk_any fs g2 hPc w8 hE2.out hfsm.out hcap2).mono ?_
        rintro e w9 ⟨rfl, hB⟩
        replace hC := hC.trans (hB.mono hC.size)
        replace hE := Lib.hid (hE.out.below hB hE.out.1)
        replace hE2 := Lib.hid (hE2.out.below hB hE2.out.1)
        replace hR := Lib.hid (hR.out.below hB)
        clear hB
        rw [hokf.out]
        go_wp2_with fail
        with_reducible refine (jsTree_sl es _ _ _ _ w9 hR.out.sl (SlE.of hE.out) (by omega)).mono ?_
        rintro e w10 ⟨rfl, hB⟩
        replace hC := hC.trans (hB.mono hC.size)
        replace hE := Lib.hid (hE.out.below hB hE.out.1)
        replace hE2 := Lib.hid (hE2.out.below hB hE2.out.1)
        replace hR := Lib.hid (hR.out.below hB)
        clear hB
        go_wp2
        go_ret
        exact ⟨rfl, hC⟩
end Go.Proofs.YtjihpbioofikcaaDoor
