/-
  The law FnTreeJoinSelf, walked.
-/
import Derived.Test.YtjihpbioofikcaaDoorJsT
import Derived.Test.YtjihpbioofikcaaDoorGH
import Derived.Test.YtjihpbioofikcaaDoorJoinN
namespace Go.Proofs.YtjihpbioofikcaaDoor
open Go.RowKit
set_option linter.unusedVariables false
set_option linter.unusedSimpArgs false
attribute [local go_sem] mkB_size mkB_extract mkB_get mkB_append mkB_append_raw raw_append_mkB mkB_toList

theorem small_nil : Small [] := ⟨by simp, fun i h => by simp at h⟩
theorem all_step {es : List En} {k : Nat} (h : k < es.length) {x : En} (hx : es[k] = x) : (es.take (k + 1)).all (fun e => e.kind == 1) = ((es.take k).all (fun e => e.kind == 1) && (x.kind == 1)) := by
  rw [List.take_succ_eq_append_getElem h, List.all_append, hx]; simp
set_option maxRecDepth 1000000 in
set_option maxHeartbeats 32000000 in
theorem law_FnTreeJoinSelf (A0 : Option Addr) (n0 c0 : Nat) (w : World) (h0 : IsBytes w A0 n0 c0) :
    Calls Tryd.prog 15 #[.slice A0 n0 c0] w fun e w' => e = .returned (.bool true) ∧ Below w.heap.size w w' := by
  by_cases hn0 : n0 ≤ 1048576
  case neg =>
    go_enter Tryd.func15, Tryd.ntmps15
    go_wp2
    go_ret
    exact ⟨rfl, Below.refl _ _⟩
  go_enter Tryd.func15, Tryd.ntmps15
  go_wp2_with fail
  with_reducible refine (DrawTreeText_any A0 n0 c0 w h0).mono ?_
  rintro e w1 ⟨es, g, c, hT, rfl, hO, hC⟩
  have hsm := dr_small hT.2 (by have := hT.1; omega)
  have hcap := hO.parts.2.2.1
  have hlo := hO.parts.2.1
  have hl17 := hT.1
  have hE := Lib.hid hO.parts.1.ents
  replace hsm := Lib.hid hsm
  replace hT := Lib.hid hT
  clear hO
  have hlen : es.length ≤ 1048576 := by omega
  rcases boolOf (treeOk es) with hok | hok
  ·
    skip
    go_wp2_with fail
    with_reducible refine (TreeOk_any es g c w1 hE.out hsm.out hcap).mono ?_
    rintro e w2 ⟨rfl, hB⟩
    replace hC := hC.trans (hB.mono hC.size)
    replace hE := Lib.hid (hE.out.below hB hE.out.1)
    clear hB
    rw [hok.out]
    go_wp2_with fail
    with_reducible refine (specTreeOk_any es g c w2 hE.out hsm.out).mono ?_
    rintro e w3 ⟨rfl, hB⟩
    replace hC := hC.trans (hB.mono hC.size)
    replace hE := Lib.hid (hE.out.below hB hE.out.1)
    clear hB
    rw [hok.out]
    go_wp2_with fail
    with_reducible refine (specTreeOk_any es g c w3 hE.out hsm.out).mono ?_
    rintro e w4 ⟨rfl, hB⟩
    replace hC := hC.trans (hB.mono hC.size)
    replace hE := Lib.hid (hE.out.below hB hE.out.1)
    clear hB
    rw [hok.out]
    go_wp2
    go_ret
    exact ⟨rfl, hC⟩
  go_wp2_with fail
  with_reducible refine (TreeOk_any es g c w1 hE.out hsm.out hcap).mono ?_
  rintro e w2 ⟨rfl, hB⟩
  replace hC := hC.trans (hB.mono hC.size)
  replace hE := Lib.hid (hE.out.below hB hE.out.1)
  clear hB
  rw [hok.out]
  go_wp2_with fail
  with_reducible refine (specTreeOk_any es g c w2 hE.out hsm.out).mono ?_
  rintro e w3 ⟨rfl, hB⟩
  replace hC := hC.trans (hB.mono hC.size)
  replace hE := Lib.hid (hE.out.below hB hE.out.1)
  clear hB
  rw [hok.out]
  clear hT
  go_wp2
  go_loopw [5, 6] (fun jo ii wr => ∃ k : Nat, k ≤ es.length ∧ ii = .int .i64 k ∧ jo = .bool ((es.take k).all (fun e => e.kind == 1)) ∧ Hid (Ents wr g es) ∧ Below w.heap.size w wr) (fun _ ii _ => es.length - (intOf ii).toNat)
  case atStart => exact ⟨0, Nat.zero_le _, rfl, rfl, hE, hC⟩
  case round =>
    clear hE hC
    obtain ⟨k, hk, rfl, rfl, hE, hC⟩ := hrel
    by_cases hlt : k < es.length
    · have hkI : (k : Int) < (es.length : Int) := by omega
      obtain ⟨d0, d1, d2, d3⟩ := hE.out.2 k hlt
      obtain ⟨x, hx⟩ : ∃ x, es[k] = x := ⟨_, rfl⟩
      have hst := all_step hlt hx
      rw [hx] at d0 d1 d2 d3
      clear hx
      obtain ⟨p, kind, mode, t⟩ := x
      simp only at d0 d1 d2 d3 hst
      rcases boolOf ((es.take k).all (fun e => e.kind == 1)) with hd | hd
      · rw [hd.out]
        rw [hd.out, Bool.false_and] at hst
        replace hst := Lib.hid hst
        replace hd := Lib.hid hd
        go_wp2
        go_round
        case rel => exact ⟨k + 1, by omega, by go_num, by rw [hst.out], hE, hC⟩
        case measure => simp [intOf]; omega
      · rw [hd.out]
        rw [hd.out, Bool.true_and] at hst
        replace hst := Lib.hid hst
        replace hd := Lib.hid hd
        go_wp2
        all_goals go_round
        all_goals first
          | exact ⟨k + 1, by omega, by go_num, by rw [hst.out], hE, hC⟩
          | exact ⟨k + 1, by omega, by go_num, by rw [hst.out]; simp_all, hE, hC⟩
          | (simp [intOf]; omega)
    · obtain rfl : k = es.length := by omega
      rw [List.take_length]
      have hjs := join_self hok.out
      have hjn := Lib.hid (join_nil hok.out treeOk_nil)
      have hnj := Lib.hid (nil_join hok.out treeOk_nil)
      rcases boolOf (es.all (fun e => e.kind == 1)) with hd | hd
      · rw [hd.out] at hjs ⊢
        simp only [if_pos, if_neg, Bool.false_eq_true] at hjs
        replace hjs := Lib.hid hjs
        replace hd := Lib.hid hd
        obtain ⟨w100, hw100⟩ : ∃ x, wr = x := ⟨_, rfl⟩
        subst hw100
        go_wp2_with fail
        have hcl := TreeJoin_any es es g c (some ⟨g, 0, none⟩) c wr hE.out hsm.out hcap (InE.of hE.out hcap) hsm.out
        rw [hjs.out] at hcl
        refine hcl.mono ?_
        rintro e w101 ⟨A1, c1, rfl, hOO, hB⟩
        clear hcl
        replace hC := hC.trans (hB.mono hC.size)
        replace hE := Lib.hid (hE.out.below hB hE.out.1)
        clear hB
        have oA := Lib.hid hOO
        clear hOO
        go_wp2_with fail
        have hcl := TreeJoin_any es [] g c none 0 w101 hE.out hsm.out hcap (.inl ⟨rfl, rfl, rfl⟩) small_nil
        rw [hjn.out] at hcl
        refine hcl.mono ?_
        rintro e w102 ⟨A2, c2, rfl, hOO, hB⟩
        clear hcl
        replace hC := hC.trans (hB.mono hC.size)
        replace hE := Lib.hid (hE.out.below hB hE.out.1)
        replace oA := Lib.hid (oA.out.below hB)
        clear hB
        have oB := Lib.hid hOO
        clear hOO
        go_wp2_with fail
        have hcl := TreeJoin_nil es (some ⟨g, 0, none⟩) c w102 (InE.of hE.out hcap) hsm.out
        rw [hnj.out] at hcl
        refine hcl.mono ?_
        rintro e w103 ⟨A3, c3, rfl, hOO, hB⟩
        clear hcl
        replace hC := hC.trans (hB.mono hC.size)
        replace hE := Lib.hid (hE.out.below hB hE.out.1)
        replace oA := Lib.hid (oA.out.below hB)
        replace oB := Lib.hid (oB.out.below hB)
        clear hB
        have oC := Lib.hid hOO
        clear hOO
        go_wp2_with fail
        with_reducible refine (jsTree_sl es _ _ _ _ w103 oB.out.sl (SlE.of hE.out) hlen).mono ?_
        rintro e w104 ⟨rfl, hB⟩
        replace hC := hC.trans (hB.mono hC.size)
        replace hE := Lib.hid (hE.out.below hB hE.out.1)
        replace oA := Lib.hid (oA.out.below hB)
        replace oB := Lib.hid (oB.out.below hB)
        replace oC := Lib.hid (oC.out.below hB)
        clear hB
        go_wp2_with fail
        with_reducible refine (jsTree_sl es _ _ _ _ w104 oC.out.sl (SlE.of hE.out) hlen).mono ?_
        rintro e w105 ⟨rfl, hB⟩
        replace hC := hC.trans (hB.mono hC.size)
        replace hE := Lib.hid (hE.out.below hB hE.out.1)
        replace oA := Lib.hid (oA.out.below hB)
        replace oB := Lib.hid (oB.out.below hB)
        replace oC := Lib.hid (oC.out.below hB)
        clear hB
        go_wp2
        go_ret
        exact ⟨rfl, hC⟩
      · rw [hd.out] at hjs ⊢
        simp only [if_pos] at hjs
        replace hjs := Lib.hid hjs
        replace hd := Lib.hid hd
        obtain ⟨w100, hw100⟩ : ∃ x, wr = x := ⟨_, rfl⟩
        subst hw100
        go_wp2_with fail
        have hcl := TreeJoin_any es es g c (some ⟨g, 0, none⟩) c wr hE.out hsm.out hcap (InE.of hE.out hcap) hsm.out
        rw [hjs.out] at hcl
        refine hcl.mono ?_
        rintro e w101 ⟨A1, c1, rfl, hOO, hB⟩
        clear hcl
        replace hC := hC.trans (hB.mono hC.size)
        replace hE := Lib.hid (hE.out.below hB hE.out.1)
        clear hB
        have oA := Lib.hid hOO
        clear hOO
        go_wp2_with fail
        have hcl := TreeJoin_any es [] g c none 0 w101 hE.out hsm.out hcap (.inl ⟨rfl, rfl, rfl⟩) small_nil
        rw [hjn.out] at hcl
        refine hcl.mono ?_
        rintro e w102 ⟨A2, c2, rfl, hOO, hB⟩
        clear hcl
        replace hC := hC.trans (hB.mono hC.size)
        replace hE := Lib.hid (hE.out.below hB hE.out.1)
        replace oA := Lib.hid (oA.out.below hB)
        clear hB
        have oB := Lib.hid hOO
        clear hOO
        go_wp2_with fail
        have hcl := TreeJoin_nil es (some ⟨g, 0, none⟩) c w102 (InE.of hE.out hcap) hsm.out
        rw [hnj.out] at hcl
        refine hcl.mono ?_
        rintro e w103 ⟨A3, c3, rfl, hOO, hB⟩
        clear hcl
        replace hC := hC.trans (hB.mono hC.size)
        replace hE := Lib.hid (hE.out.below hB hE.out.1)
        replace oA := Lib.hid (oA.out.below hB)
        replace oB := Lib.hid (oB.out.below hB)
        clear hB
        have oC := Lib.hid hOO
        clear hOO
        go_wp2_with fail
        with_reducible refine (jsTree_sl es _ _ _ _ w103 oA.out.sl (SlE.of hE.out) hlen).mono ?_
        rintro e w104 ⟨rfl, hB⟩
        replace hC := hC.trans (hB.mono hC.size)
        replace hE := Lib.hid (hE.out.below hB hE.out.1)
        replace oA := Lib.hid (oA.out.below hB)
        replace oB := Lib.hid (oB.out.below hB)
        replace oC := Lib.hid (oC.out.below hB)
        clear hB
        go_wp2_with fail
        with_reducible refine (jsTree_sl es _ _ _ _ w104 oB.out.sl (SlE.of hE.out) hlen).mono ?_
        rintro e w105 ⟨rfl, hB⟩
        replace hC := hC.trans (hB.mono hC.size)
        replace hE := Lib.hid (hE.out.below hB hE.out.1)
        replace oA := Lib.hid (oA.out.below hB)
        replace oB := Lib.hid (oB.out.below hB)
        replace oC := Lib.hid (oC.out.below hB)
        clear hB
        go_wp2_with fail
        with_reducible refine (jsTree_sl es _ _ _ _ w105 oC.out.sl (SlE.of hE.out) hlen).mono ?_
        rintro e w106 ⟨rfl, hB⟩
        replace hC := hC.trans (hB.mono hC.size)
        replace hE := Lib.hid (hE.out.below hB hE.out.1)
        replace oA := Lib.hid (oA.out.below hB)
        replace oB := Lib.hid (oB.out.below hB)
        replace oC := Lib.hid (oC.out.below hB)
        clear hB
        go_wp2
        go_ret
        exact ⟨rfl, hC⟩
end Go.Proofs.YtjihpbioofikcaaDoor
