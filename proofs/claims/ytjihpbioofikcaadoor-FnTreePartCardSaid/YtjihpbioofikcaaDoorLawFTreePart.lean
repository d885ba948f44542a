/-
  The law FnTreePart, walked.
-/
import Derived.Test.YtjihpbioofikcaaDoorJsT
import Derived.Test.YtjihpbioofikcaaDoorDrawX
import Derived.Test.YtjihpbioofikcaaDoorPartN
import Derived.Test.YtjihpbioofikcaaDoorLawFTreePartRest
import Derived.Test.YtjihpbioofikcaaDoorGetN
namespace Go.Proofs.YtjihpbioofikcaaDoor
open Go.RowKit
set_option linter.unusedVariables false
set_option linter.unusedSimpArgs false
attribute [local go_sem] mkB_size mkB_extract mkB_get mkB_append mkB_append_raw raw_append_mkB mkB_toList

set_option maxRecDepth 1000000 in
set_option maxHeartbeats 32000000 in
theorem law_FnTreePart (A0 : Option Addr) (n0 c0 : Nat) (w : World) (h0 : IsBytes w A0 n0 c0) :
    Calls Tryd.prog 17 #[.slice A0 n0 c0] w fun e w' => e = .returned (.bool true) ∧ Below w.heap.size w w' := by
  by_cases hn0 : n0 ≤ 1048576
  case neg =>
    go_enter Tryd.func17, Tryd.ntmps17
    go_wp2
    go_ret
    exact ⟨rfl, Below.refl _ _⟩
  go_enter Tryd.func17, Tryd.ntmps17
  go_wp2_with fail
  with_reducible refine (DrawTreePart_any A0 n0 c0 w h0).mono ?_
  rintro e w1 ⟨es, g, c, l, hT, hs, rfl, hO, hC⟩
  have hsm := dr_small hT.2 (by have := hT.1; omega)
  have hcap := hO.parts.2.2.1
  have hlo := hO.parts.2.1
  have hl17 := hT.1
  have hE := Lib.hid hO.parts.1.ents
  replace hsm := Lib.hid hsm
  replace hT := Lib.hid hT
  clear hO
  have hl : l.length ≤ 1048576 := by have := globs_short l hs; omega
  have hlen : es.length ≤ 1048576 := by omega
  clear hs hT
  obtain ⟨fs, hfs⟩ : ∃ x, treePart es l = x := ⟨_, rfl⟩
  have hfl : fs.length ≤ 1048576 := by have := treePart_len es l; rw [hfs] at this; omega
  replace hfs := Lib.hid hfs
  go_wp2_with fail
  have hcl := TreePart_both es l g c w1 hE.out hsm.out hcap hl
  rw [hfs.out] at hcl
  refine hcl.mono ?_
  rintro e w2 ⟨A1, c1, rfl, hX, hI, hB⟩
  clear hcl
  replace hC := hC.trans (hB.mono hC.size)
  replace hE := Lib.hid (hE.out.below hB hE.out.1)
  clear hB
  replace hX := Lib.hid hX
  replace hI := Lib.hid hI
  go_wp2_with fail
  have hcl := specTreePart_any es l g c w2 hE.out hsm.out hl
  rw [hfs.out] at hcl
  refine hcl.mono ?_
  rintro e w3 ⟨A2, c2, rfl, hS, hB⟩
  clear hcl
  replace hC := hC.trans (hB.mono hC.size)
  replace hE := Lib.hid (hE.out.below hB hE.out.1)
  replace hX := Lib.hid (hX.out.below hB)
  replace hI := Lib.hid (hI.out.below hB)
  clear hB
  replace hS := Lib.hid hS
  go_wp2_with fail
  with_reducible refine (jsTree_sl fs _ _ _ _ w3 hX.out.sl hS.out.sl hfl).mono ?_
  rintro e w4 ⟨rfl, hB⟩
  replace hC := hC.trans (hB.mono hC.size)
  replace hE := Lib.hid (hE.out.below hB hE.out.1)
  replace hX := Lib.hid (hX.out.below hB)
  replace hI := Lib.hid (hI.out.below hB)
  replace hS := Lib.hid (hS.out.below hB)
  clear hB
  go_wp2_with fail
  with_reducible refine (specTreeOk_any es g c w4 hE.out hsm.out).mono ?_
  rintro e w5 ⟨rfl, hB⟩
  replace hC := hC.trans (hB.mono hC.size)
  replace hE := Lib.hid (hE.out.below hB hE.out.1)
  replace hX := Lib.hid (hX.out.below hB)
  replace hI := Lib.hid (hI.out.below hB)
  replace hS := Lib.hid (hS.out.below hB)
  clear hB
  rcases boolOf (treeOk es) with hok | hok
  · rw [hok.out]
    clear hS
    go_wp2_with fail
    have hcl := specTreePart_any es l g c w5 hE.out hsm.out hl
    rw [hfs.out] at hcl
    refine hcl.mono ?_
    rintro e w6 ⟨A3, c3, rfl, hS, hB⟩
    clear hcl
    replace hC := hC.trans (hB.mono hC.size)
    replace hE := Lib.hid (hE.out.below hB hE.out.1)
    replace hX := Lib.hid (hX.out.below hB)
    replace hI := Lib.hid (hI.out.below hB)
    clear hB
    replace hS := Lib.hid hS
    go_wp2_with fail
    with_reducible refine (jsTree_sl fs _ _ _ _ w6 hX.out.sl hS.out.sl hfl).mono ?_
    rintro e w7 ⟨rfl, hB⟩
    replace hC := hC.trans (hB.mono hC.size)
    replace hE := Lib.hid (hE.out.below hB hE.out.1)
    replace hX := Lib.hid (hX.out.below hB)
    replace hI := Lib.hid (hI.out.below hB)
    replace hS := Lib.hid (hS.out.below hB)
    clear hB
    go_wp2
    go_ret
    exact ⟨rfl, hC⟩
  rw [hok.out]
  clear hS
  obtain ⟨lo1, hX⟩ : ∃ lo, Hid (OwnE w5 lo A1 fs) := ⟨_, hX⟩
  have hsf : Small fs := by rw [← hfs.out]; exact part_small hsm.out hok.out l
  replace hsf := Lib.hid hsf
  go_wp2
  go_loopw [6] (fun ii wr => ∃ k : Nat, k ≤ es.length ∧ ii = .int .i64 k ∧ Hid (Ents wr g es) ∧ Hid (InE wr A1 c1 fs) ∧ Hid (OwnE wr lo1 A1 fs) ∧ Below w.heap.size w wr) (fun ii _ => es.length - (intOf ii).toNat)
  case atStart => exact ⟨0, Nat.zero_le _, rfl, hE, hI, hX, hC⟩
  case round =>
    clear hE hI hC hX
    obtain ⟨k, hk, rfl, hE, hI, hX, hC⟩ := hrel
    by_cases hlt : k < es.length
    · have hkI : (k : Int) < (es.length : Int) := by omega
      obtain ⟨d0, d1, d2, d3⟩ := hE.out.2 k hlt
      have hpl := (hsm.out.2 k hlt).1
      have hmem := List.getElem_mem hlt
      have hrg := rest_glob hok.out l hmem
      have hwh := wanted_has (g := l) hmem
      have hpg := fun b (hb : wanted es l es[k] = b) => part_get hok.out l hmem hb
      rw [hfs.out] at hpg
      obtain ⟨x, hx⟩ : ∃ x, es[k] = x := ⟨_, rfl⟩
      rw [hx] at d0 d1 d2 d3 hpl hrg hpg hwh
      replace hx := Lib.hid hx
      clear hmem
      obtain ⟨p, kind, mode, t⟩ := x
      simp only at d0 d1 d2 d3 hpl hrg hpg hwh
      replace hrg := Lib.hid hrg
      replace hwh := Lib.hid hwh
      replace hpg := Lib.hid hpg
      go_wp2_with fail
      with_reducible refine (TreeGet_in fs p A1 c1 wr hI.out hsf.out hpl).mono ?_
      rintro r w2 ⟨rfl, hB⟩
      replace hC := hC.trans (hB.mono hC.size)
      replace hE := Lib.hid (hE.out.below hB hE.out.1)
      replace hI := Lib.hid (hI.out.below hB)
      replace hX := Lib.hid (hX.out.below hB)
      clear hB d0 d1 d2 d3
      rcases boolOf (wanted es l ⟨p, kind, mode, t⟩) with hw | hw
      · obtain ⟨p', k', m', t', hv⟩ := hpg.out _ hw.out
        rw [hv]
        have hBn : Below w2.heap.size w2 (w2.alloc (.cells #[.string (mkB p'), .int .i64 k', .int .i64 m', .string (mkB t')] 31)) := (Below.refl _ _).alloc (Nat.le_refl _) _
        have hE3 := hE.out.below hBn hE.out.1
        have hI3 := Lib.hid (hI.out.below hBn)
        have hX3 := Lib.hid (hX.out.below hBn)
        have hC3 := hC.trans (hBn.mono hC.size)
        obtain ⟨d0, d1, d2, d3⟩ := hE3.2 k hlt
        rw [hx.out] at d0 d1 d2 d3
        simp only at d0 d1 d2 d3
        replace hE3 := Lib.hid hE3
        clear hv hBn
        have hgl : Hid (globHas l p = false) := by
          refine Lib.hid ?_
          cases hq : globHas l p with
          | false => rfl
          | true => have := hwh.out hq; rw [hw.out] at this; cases this
        go_wp2_with fail
        with_reducible refine (GlobHas_any l p hl hpl _).mono ?_
        rintro r w4 ⟨rfl, hB⟩
        replace hC3 := hC3.trans (hB.mono hC3.size)
        replace hE3 := Lib.hid (hE3.out.below hB hE3.out.1)
        replace hI3 := Lib.hid (hI3.out.below hB)
        replace hX3 := Lib.hid (hX3.out.below hB)
        clear hB d0 d1 d2 d3
        obtain ⟨d0, d1, d2, d3⟩ := hE3.out.2 k hlt
        rw [hx.out] at d0 d1 d2 d3
        simp only at d0 d1 d2 d3
        rw [hgl.out]
        go_wp2
        go_round
        case rel => exact ⟨k + 1, by omega, by go_num, hE3, hI3, hX3, hC3⟩
        case measure => simp [intOf]; omega
      rcases boolOf (globHas l p) with hgl | hgl
      · obtain ⟨p', k', m', t', hv⟩ := hpg.out _ hw.out
        rw [hv]
        have hBn : Below w2.heap.size w2 (w2.alloc (.cells #[.string (mkB p'), .int .i64 k', .int .i64 m', .string (mkB t')] 31)) := (Below.refl _ _).alloc (Nat.le_refl _) _
        have hE3 := hE.out.below hBn hE.out.1
        have hI3 := Lib.hid (hI.out.below hBn)
        have hX3 := Lib.hid (hX.out.below hBn)
        have hC3 := hC.trans (hBn.mono hC.size)
        obtain ⟨d0, d1, d2, d3⟩ := hE3.2 k hlt
        rw [hx.out] at d0 d1 d2 d3
        simp only at d0 d1 d2 d3
        replace hE3 := Lib.hid hE3
        clear hv hBn
        have hkd : kind = 1 := by
          by_cases h : kind = 1
          · exact h
          · have := hrg.out h; rw [hgl.out, hw.out] at this; cases this
        subst hkd
        go_wp2_with fail
        with_reducible refine (GlobHas_any l p hl hpl _).mono ?_
        rintro r w4 ⟨rfl, hB⟩
        replace hC3 := hC3.trans (hB.mono hC3.size)
        replace hE3 := Lib.hid (hE3.out.below hB hE3.out.1)
        replace hI3 := Lib.hid (hI3.out.below hB)
        replace hX3 := Lib.hid (hX3.out.below hB)
        clear hB d0 d1 d2 d3
        obtain ⟨d0, d1, d2, d3⟩ := hE3.out.2 k hlt
        rw [hx.out] at d0 d1 d2 d3
        simp only at d0 d1 d2 d3
        rw [hgl.out]
        go_wp2_with fail
        with_reducible refine (GlobHas_any l p hl hpl _).mono ?_
        rintro r w5 ⟨rfl, hB⟩
        replace hC3 := hC3.trans (hB.mono hC3.size)
        replace hE3 := Lib.hid (hE3.out.below hB hE3.out.1)
        replace hI3 := Lib.hid (hI3.out.below hB)
        replace hX3 := Lib.hid (hX3.out.below hB)
        clear hB d0 d1 d2 d3
        obtain ⟨d0, d1, d2, d3⟩ := hE3.out.2 k hlt
        rw [hx.out] at d0 d1 d2 d3
        simp only at d0 d1 d2 d3
        rw [hgl.out]
        go_wp2
        go_round
        case rel => exact ⟨k + 1, by omega, by go_num, hE3, hI3, hX3, hC3⟩
        case measure => simp [intOf]; omega
      · obtain ⟨p', k', m', t', hv⟩ := hpg.out _ hw.out
        rw [hv]
        have hBn : Below w2.heap.size w2 (w2.alloc (.cells #[.string (mkB p'), .int .i64 k', .int .i64 m', .string (mkB t')] 31)) := (Below.refl _ _).alloc (Nat.le_refl _) _
        have hE3 := hE.out.below hBn hE.out.1
        have hI3 := Lib.hid (hI.out.below hBn)
        have hX3 := Lib.hid (hX.out.below hBn)
        have hC3 := hC.trans (hBn.mono hC.size)
        obtain ⟨d0, d1, d2, d3⟩ := hE3.2 k hlt
        rw [hx.out] at d0 d1 d2 d3
        simp only at d0 d1 d2 d3
        replace hE3 := Lib.hid hE3
        clear hv hBn
        go_wp2_with fail
        with_reducible refine (GlobHas_any l p hl hpl _).mono ?_
        rintro r w4 ⟨rfl, hB⟩
        replace hC3 := hC3.trans (hB.mono hC3.size)
        replace hE3 := Lib.hid (hE3.out.below hB hE3.out.1)
        replace hI3 := Lib.hid (hI3.out.below hB)
        replace hX3 := Lib.hid (hX3.out.below hB)
        clear hB d0 d1 d2 d3
        obtain ⟨d0, d1, d2, d3⟩ := hE3.out.2 k hlt
        rw [hx.out] at d0 d1 d2 d3
        simp only at d0 d1 d2 d3
        rw [hgl.out]
        go_wp2_with fail
        with_reducible refine (GlobHas_any l p hl hpl _).mono ?_
        rintro r w5 ⟨rfl, hB⟩
        replace hC3 := hC3.trans (hB.mono hC3.size)
        replace hE3 := Lib.hid (hE3.out.below hB hE3.out.1)
        replace hI3 := Lib.hid (hI3.out.below hB)
        replace hX3 := Lib.hid (hX3.out.below hB)
        clear hB d0 d1 d2 d3
        obtain ⟨d0, d1, d2, d3⟩ := hE3.out.2 k hlt
        rw [hx.out] at d0 d1 d2 d3
        simp only at d0 d1 d2 d3
        rw [hgl.out]
        go_wp2
        go_round
        case rel => exact ⟨k + 1, by omega, by go_num, hE3, hI3, hX3, hC3⟩
        case measure => simp [intOf]; omega
    · obtain rfl : k = es.length := by omega
      have hof := part_ok hok.out l
      have hag := part_again hok.out l
      have hlf := treePart_len es l
      rw [hfs.out] at hof hag hlf
      have hlI : (fs.length : Int) ≤ (es.length : Int) := by omega
      have hall := Lib.hid (part_all hok.out)
      replace hof := Lib.hid hof
      replace hag := Lib.hid hag
      obtain ⟨w20, hw20⟩ : ∃ x, wr = x := ⟨_, rfl⟩
      rw [hw20] at hE hI hX hC ⊢
      clear hw20
      go_wp2_with fail
      with_reducible refine (TreeOk_in fs A1 c1 w20 hI.out hsf.out).mono ?_
      rintro e w21 ⟨rfl, hB⟩
      replace hC := hC.trans (hB.mono hC.size)
      replace hE := Lib.hid (hE.out.below hB hE.out.1)
      replace hI := Lib.hid (hI.out.below hB)
      replace hX := Lib.hid (hX.out.below hB)
      clear hB
      rw [hof.out]
      go_wp2_with fail
      have hcl := TreePart_any es [42, 42] g c w21 hE.out hsm.out hcap (by simp)
      rw [hall.out] at hcl
      refine hcl.mono ?_
      rintro e w22 ⟨A5, c5, rfl, hY, hB⟩
      clear hcl
      replace hC := hC.trans (hB.mono hC.size)
      replace hE := Lib.hid (hE.out.below hB hE.out.1)
      replace hI := Lib.hid (hI.out.below hB)
      replace hX := Lib.hid (hX.out.below hB)
      clear hB
      replace hY := Lib.hid hY
      go_wp2_with fail
      with_reducible refine (jsTree_sl es _ _ _ _ w22 hY.out.sl (SlE.of hE.out) hlen).mono ?_
      rintro e w23 ⟨rfl, hB⟩
      replace hC := hC.trans (hB.mono hC.size)
      replace hE := Lib.hid (hE.out.below hB hE.out.1)
      replace hI := Lib.hid (hI.out.below hB)
      replace hX := Lib.hid (hX.out.below hB)
      replace hY := Lib.hid (hY.out.below hB)
      clear hB
      go_wp2_with fail
      have hcl := TreePart_in fs l A1 c1 w23 hI.out hsf.out hl
      rw [hag.out] at hcl
      refine hcl.mono ?_
      rintro e w24 ⟨A6, c6, rfl, hZ, hB⟩
      clear hcl
      replace hC := hC.trans (hB.mono hC.size)
      replace hE := Lib.hid (hE.out.below hB hE.out.1)
      replace hI := Lib.hid (hI.out.below hB)
      replace hX := Lib.hid (hX.out.below hB)
      replace hY := Lib.hid (hY.out.below hB)
      clear hB
      replace hZ := Lib.hid hZ
      go_wp2_with fail
      with_reducible refine (jsTree_sl fs _ _ _ _ w24 hZ.out.sl hX.out.sl hfl).mono ?_
      rintro e w25 ⟨rfl, hB⟩
      replace hC := hC.trans (hB.mono hC.size)
      replace hE := Lib.hid (hE.out.below hB hE.out.1)
      replace hI := Lib.hid (hI.out.below hB)
      replace hX := Lib.hid (hX.out.below hB)
      replace hY := Lib.hid (hY.out.below hB)
      replace hZ := Lib.hid (hZ.out.below hB)
      clear hB
      go_wp2
      go_ret
      exact ⟨rfl, hC⟩
end Go.Proofs.YtjihpbioofikcaaDoor
