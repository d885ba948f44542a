/-
  The law FnTreePartRest, walked.
-/
import Derived.Test.YtjihpbioofikcaaDoorJsT
import Derived.Test.YtjihpbioofikcaaDoorDrawX
import Derived.Test.YtjihpbioofikcaaDoorPartI
import Derived.Test.YtjihpbioofikcaaDoorGetN
namespace Go.Proofs.YtjihpbioofikcaaDoor
open Go.RowKit
set_option linter.unusedVariables false
set_option linter.unusedSimpArgs false
attribute [local go_sem] mkB_size mkB_extract mkB_get mkB_append mkB_append_raw raw_append_mkB mkB_toList

theorem small_sub {es fs : List En} (h : Small es) (hl : fs.length ≤ es.length) (hm : ∀ e ∈ fs, e ∈ es) : Small fs := by
  refine ⟨by have := h.1; omega, fun i hi => ?_⟩
  obtain ⟨j, hj, h2⟩ := List.getElem_of_mem (hm _ (List.getElem_mem hi))
  rw [← h2]; exact h.2 j hj
theorem part_small {es : List En} (h : Small es) (ht : treeOk es = true) (l : List UInt8) : Small (treePart es l) :=
  small_sub h (treePart_len es l) fun e he => ((part_mem ht).1 he).1
/-- what TreeGet of the part says of an entry of the tree -/
theorem part_get {es : List En} (ht : treeOk es = true) (l : List UInt8) {e : En} (he : e ∈ es) {b : Bool} (hw : wanted es l e = b) :
    ∃ p k m t, entV (treeGet (treePart es l) e.path) = .tuple #[.agg #[.string (mkB p), .int .i64 k, .int .i64 m, .string (mkB t)], .bool b] := by
  have hth := part_there ht l he
  rw [hw] at hth
  cases b with
  | false => rw [treeGet_no hth]; exact ⟨[], 0, 0, [], rfl⟩
  | true =>
    have hk := (there_iff.1 hth).1
    rw [treeGet_yes (part_ok ht l) (by omega) rfl hth]
    exact ⟨_, _, _, _, rfl⟩
theorem rest_glob {es : List En} (ht : treeOk es = true) (l : List UInt8) {e : En} (he : e ∈ es) (hk : e.kind ≠ 1) : globHas l e.path = wanted es l e := by
  have h := wanted_spec ht l he
  have hk2 : (e.kind == 1) = false := by simp [hk]
  rw [hk2, Bool.false_and, Bool.or_false] at h
  exact h.symm
theorem count_step {q : En → Bool} {es : List En} {k : Nat} (h : k < es.length) {b : Bool} (hb : q es[k] = b) : ((es.take (k + 1)).filter q).length = ((es.take k).filter q).length + (if b then 1 else 0) := by
  rw [filter_take h, List.length_append, hb]
  cases b <;> rfl

set_option maxRecDepth 1000000 in
set_option maxHeartbeats 32000000 in
theorem law_FnTreePartRest (A0 : Option Addr) (n0 c0 : Nat) (w : World) (h0 : IsBytes w A0 n0 c0) :
    Calls Tryd.prog 18 #[.slice A0 n0 c0] w fun e w' => e = .returned (.bool true) ∧ Below w.heap.size w w' := by
  by_cases hn0 : n0 ≤ 1048576
  case neg =>
    go_enter Tryd.func18, Tryd.ntmps18
    go_wp2
    go_ret
    exact ⟨rfl, Below.refl _ _⟩
  go_enter Tryd.func18, Tryd.ntmps18
  go_wp2_with fail
  with_reducible refine (DrawTreePart_any A0 n0 c0 w h0).mono ?_
  rintro e w1 ⟨es, g, c, l, hT, hs, rfl, hO, hC⟩
  have hsm := dr_small hT.2 (by have := hT.1; omega)
  have hcap := hO.parts.2.2.1
  have hlo := hO.parts.2.1
  have hl17 := hT.1
  have hE := Lib.hid hO.parts.1.ents
  replace hsm := Lib.hid hsm
  replace hT := Lib.hid hT
  clear hO
  have hl : l.length ≤ 1048576 := by have := globs_short l hs; omega
  have hlen : es.length ≤ 1048576 := by omega
  clear hs hT
  obtain ⟨fs, hfs⟩ : ∃ x, treePart es l = x := ⟨_, rfl⟩
  have hfl : fs.length ≤ 1048576 := by have := treePart_len es l; rw [hfs] at this; omega
  replace hfs := Lib.hid hfs
  go_wp2_with fail
  have hcl := TreePart_both es l g c w1 hE.out hsm.out hcap hl
  rw [hfs.out] at hcl
  refine hcl.mono ?_
  rintro e w2 ⟨A1, c1, rfl, hX, hI, hB⟩
  clear hcl
  replace hC := hC.trans (hB.mono hC.size)
  replace hE := Lib.hid (hE.out.below hB hE.out.1)
  clear hB
  replace hX := Lib.hid hX
  replace hI := Lib.hid hI
  go_wp2_with fail
  have hcl := specTreePart_any es l g c w2 hE.out hsm.out hl
  rw [hfs.out] at hcl
  refine hcl.mono ?_
  rintro e w3 ⟨A2, c2, rfl, hS, hB⟩
  clear hcl
  replace hC := hC.trans (hB.mono hC.size)
  replace hE := Lib.hid (hE.out.below hB hE.out.1)
  replace hX := Lib.hid (hX.out.below hB)
  replace hI := Lib.hid (hI.out.below hB)
  clear hB
  replace hS := Lib.hid hS
  go_wp2_with fail
  with_reducible refine (jsTree_sl fs _ _ _ _ w3 hX.out.sl hS.out.sl hfl).mono ?_
  rintro e w4 ⟨rfl, hB⟩
  replace hC := hC.trans (hB.mono hC.size)
  replace hE := Lib.hid (hE.out.below hB hE.out.1)
  replace hX := Lib.hid (hX.out.below hB)
  replace hI := Lib.hid (hI.out.below hB)
  replace hS := Lib.hid (hS.out.below hB)
  clear hB
  go_wp2_with fail
  with_reducible refine (specTreeOk_any es g c w4 hE.out hsm.out).mono ?_
  rintro e w5 ⟨rfl, hB⟩
  replace hC := hC.trans (hB.mono hC.size)
  replace hE := Lib.hid (hE.out.below hB hE.out.1)
  replace hX := Lib.hid (hX.out.below hB)
  replace hI := Lib.hid (hI.out.below hB)
  replace hS := Lib.hid (hS.out.below hB)
  clear hB
  rcases boolOf (treeOk es) with hok | hok
  · rw [hok.out]
    clear hS
    go_wp2_with fail
    have hcl := specTreePart_any es l g c w5 hE.out hsm.out hl
    rw [hfs.out] at hcl
    refine hcl.mono ?_
    rintro e w6 ⟨A3, c3, rfl, hS, hB⟩
    clear hcl
    replace hC := hC.trans (hB.mono hC.size)
    replace hE := Lib.hid (hE.out.below hB hE.out.1)
    replace hX := Lib.hid (hX.out.below hB)
    replace hI := Lib.hid (hI.out.below hB)
    clear hB
    replace hS := Lib.hid hS
    go_wp2_with fail
    with_reducible refine (jsTree_sl fs _ _ _ _ w6 hX.out.sl hS.out.sl hfl).mono ?_
    rintro e w7 ⟨rfl, hB⟩
    replace hC := hC.trans (hB.mono hC.size)
    replace hE := Lib.hid (hE.out.below hB hE.out.1)
    replace hX := Lib.hid (hX.out.below hB)
    replace hI := Lib.hid (hI.out.below hB)
    replace hS := Lib.hid (hS.out.below hB)
    clear hB
    go_wp2
    go_ret
    exact ⟨rfl, hC⟩
  rw [hok.out]
  clear hS
  have hsf : Small fs := by rw [← hfs.out]; exact part_small hsm.out hok.out l
  replace hsf := Lib.hid hsf
  go_wp2
  go_loopw [6, 7] (fun ni ii wr => ∃ k n : Nat, k ≤ es.length ∧ n ≤ k ∧ ni = .int .i64 n ∧ ii = .int .i64 k ∧ Hid (n = ((es.take k).filter (wanted es l)).length) ∧ Hid (Ents wr g es) ∧ Hid (InE wr A1 c1 fs) ∧ Below w.heap.size w wr) (fun _ ii _ => es.length - (intOf ii).toNat)
  case atStart => exact ⟨0, 0, Nat.zero_le _, Nat.zero_le _, rfl, rfl, Lib.hid (by simp), hE, hI, hC⟩
  case round =>
    clear hE hI hC hX
    obtain ⟨k, n, hk, hnk, rfl, rfl, hn, hE, hI, hC⟩ := hrel
    by_cases hlt : k < es.length
    · have hkI : (k : Int) < (es.length : Int) := by omega
      obtain ⟨d0, d1, d2, d3⟩ := hE.out.2 k hlt
      have hpl := (hsm.out.2 k hlt).1
      have hmem := List.getElem_mem hlt
      have hrg := rest_glob hok.out l hmem
      have hpg := fun b (hb : wanted es l es[k] = b) => part_get hok.out l hmem hb
      have hct := fun b (hb : wanted es l es[k] = b) => count_step (q := wanted es l) hlt hb
      rw [hfs.out] at hpg
      obtain ⟨x, hx⟩ : ∃ x, es[k] = x := ⟨_, rfl⟩
      rw [hx] at d0 d1 d2 d3 hpl hrg hpg hct
      replace hx := Lib.hid hx
      clear hmem
      obtain ⟨p, kind, mode, t⟩ := x
      simp only at d0 d1 d2 d3 hpl hrg hpg
      replace hct := Lib.hid hct
      replace hrg := Lib.hid hrg
      replace hpg := Lib.hid hpg
      go_wp2_with fail
      with_reducible refine (TreeGet_in fs p A1 c1 wr hI.out hsf.out hpl).mono ?_
      rintro r w2 ⟨rfl, hB⟩
      replace hC := hC.trans (hB.mono hC.size)
      replace hE := Lib.hid (hE.out.below hB hE.out.1)
      replace hI := Lib.hid (hI.out.below hB)
      clear hB d0 d1 d2 d3
      rcases boolOf (wanted es l ⟨p, kind, mode, t⟩) with hw | hw
      · obtain ⟨p', k', m', t', hv⟩ := hpg.out _ hw.out
        rw [hv]
        have hct2 := Lib.hid (hct.out _ hw.out)
        have hBn : Below w2.heap.size w2 (w2.alloc (.cells #[.string (mkB p'), .int .i64 k', .int .i64 m', .string (mkB t')] 31)) := (Below.refl _ _).alloc (Nat.le_refl _) _
        have hE3 := hE.out.below hBn hE.out.1
        have hI3 := Lib.hid (hI.out.below hBn)
        have hC3 := hC.trans (hBn.mono hC.size)
        obtain ⟨d0, d1, d2, d3⟩ := hE3.2 k hlt
        rw [hx.out] at d0 d1 d2 d3
        simp only at d0 d1 d2 d3
        replace hE3 := Lib.hid hE3
        clear hv hBn
        by_cases hkd : kind = 1
        · subst hkd
          go_wp2
          go_round
          case rel => exact ⟨k + 1, n, by omega, by omega, by go_num, by go_num, Lib.hid (by rw [hct2.out, ← hn.out]; rfl), hE3, hI3, hC3⟩
          case measure => simp [intOf]; omega
        · have hkb : (kind != 1) = true := by simp [hkd]
          have hgl : globHas l p = false := (hrg.out hkd).trans hw.out
          replace hgl := Lib.hid hgl
          replace hkd := Lib.hid hkd
          go_wp2_with fail
          with_reducible refine (GlobHas_any l p hl hpl _).mono ?_
          rintro r w4 ⟨rfl, hB⟩
          replace hC3 := hC3.trans (hB.mono hC3.size)
          replace hE3 := Lib.hid (hE3.out.below hB hE3.out.1)
          replace hI3 := Lib.hid (hI3.out.below hB)
          clear hB
          rw [hgl.out]
          go_wp2
          go_round
          case rel => exact ⟨k + 1, n, by omega, by omega, by go_num, by go_num, Lib.hid (by rw [hct2.out, ← hn.out]; rfl), hE3, hI3, hC3⟩
          case measure => simp [intOf]; omega
      · obtain ⟨p', k', m', t', hv⟩ := hpg.out _ hw.out
        rw [hv]
        have hct2 := Lib.hid (hct.out _ hw.out)
        have hBn : Below w2.heap.size w2 (w2.alloc (.cells #[.string (mkB p'), .int .i64 k', .int .i64 m', .string (mkB t')] 31)) := (Below.refl _ _).alloc (Nat.le_refl _) _
        have hE3 := hE.out.below hBn hE.out.1
        have hI3 := Lib.hid (hI.out.below hBn)
        have hC3 := hC.trans (hBn.mono hC.size)
        obtain ⟨d0, d1, d2, d3⟩ := hE3.2 k hlt
        rw [hx.out] at d0 d1 d2 d3
        simp only at d0 d1 d2 d3
        replace hE3 := Lib.hid hE3
        clear hv hBn
        by_cases hkd : kind = 1
        · subst hkd
          go_wp2
          go_round
          case rel => exact ⟨k + 1, n + 1, by omega, by omega, by go_num, by go_num, Lib.hid (by rw [hct2.out, ← hn.out]; rfl), hE3, hI3, hC3⟩
          case measure => simp [intOf]; omega
        · have hkb : (kind != 1) = true := by simp [hkd]
          have hgl : globHas l p = true := (hrg.out hkd).trans hw.out
          replace hgl := Lib.hid hgl
          replace hkd := Lib.hid hkd
          go_wp2_with fail
          with_reducible refine (GlobHas_any l p hl hpl _).mono ?_
          rintro r w4 ⟨rfl, hB⟩
          replace hC3 := hC3.trans (hB.mono hC3.size)
          replace hE3 := Lib.hid (hE3.out.below hB hE3.out.1)
          replace hI3 := Lib.hid (hI3.out.below hB)
          clear hB
          rw [hgl.out]
          go_wp2
          go_round
          case rel => exact ⟨k + 1, n + 1, by omega, by omega, by go_num, by go_num, Lib.hid (by rw [hct2.out, ← hn.out]; rfl), hE3, hI3, hC3⟩
          case measure => simp [intOf]; omega
    · obtain rfl : k = es.length := by omega
      have hnf : n = fs.length := by rw [hn.out, List.take_length, ← treePart_ok hok.out, hfs.out]
      clear hn
      subst hnf
      go_wp2
      go_ret
      exact ⟨rfl, hC⟩
end Go.Proofs.YtjihpbioofikcaaDoor
