/-
  The law FnTreeDrop, walked.
-/
import Derived.OrdersHeld
import Derived.Test.YtjihpbioofikcaaDoorJsT
import Derived.Test.YtjihpbioofikcaaDoorPutC
import Derived.Test.YtjihpbioofikcaaDoorDropC
import Derived.Test.YtjihpbioofikcaaDoorDropU
namespace Go.Proofs.YtjihpbioofikcaaDoor
open Go.RowKit
set_option linter.unusedVariables false
set_option linter.unusedSimpArgs false
attribute [local go_sem] mkB_size mkB_extract mkB_get mkB_append mkB_append_raw raw_append_mkB mkB_toList

theorem InE.posD {w : World} {A : Option Addr} {c : Nat} {es : List En} (h : InE w A c es) {k : Nat} (hk : k < es.length) : ∃ g, A = some ⟨g, 0, none⟩ ∧ Ents w g es ∧ es.length ≤ c := by
  rcases h with ⟨_, _, h⟩ | h
  · rw [h] at hk; simp at hk
  · exact h
theorem at_eq {fs : List En} {j : Nat} {e : En} (h : fs[j]? = some e) : ∃ hj : j < fs.length, fs[j] = e := List.getElem?_eq_some_iff.1 h
set_option maxRecDepth 1000000 in
set_option maxHeartbeats 32000000 in
theorem law_FnTreeDrop (A0 : Option Addr) (n0 c0 : Nat) (w : World) (h0 : IsBytes w A0 n0 c0) :
    Calls Tryd.prog 8 #[.slice A0 n0 c0] w fun e w' => e = .returned (.bool true) ∧ Below w.heap.size w w' := by
  by_cases hn0 : n0 ≤ 1048576
  case neg =>
    go_enter Tryd.func8, Tryd.ntmps8
    go_wp2
    go_ret
    exact ⟨rfl, Below.refl _ _⟩
  go_enter Tryd.func8, Tryd.ntmps8
  go_wp2_with fail
  with_reducible refine (DrawTreeDrop_any A0 n0 c0 w h0).mono ?_
  rintro e w1 ⟨es, g, c, s, hT, hs, rfl, hO, hC⟩
  have hsm := dr_small hT.2 (by have := hT.1; omega)
  have hcap := hO.parts.2.2.1
  have hlo := hO.parts.2.1
  have hl17 := hT.1
  have hE := Lib.hid hO.parts.1.ents
  replace hsm := Lib.hid hsm
  replace hT := Lib.hid hT
  clear hO
  have hsl : s.length ≤ 1048576 := by have := hs.1; omega
  obtain ⟨⟨fs, b⟩, hpt⟩ : ∃ y, treeDrop es s = y := ⟨_, rfl⟩
  have hfl : fs.length ≤ 1048576 := by
    have : (treeDrop es s).1.length ≤ es.length := by
      unfold treeDrop
      split
      · split
        · exact List.length_filter_le _ _
        · exact Nat.le_refl _
      · exact Nat.zero_le _
    rw [hpt] at this; simp only at this; omega
  replace hpt := Lib.hid hpt
  have hb1 : (b != b) = false := by simp
  have hb2 : (b == b) = true := by simp
  go_wp2_with fail
  have hcl := TreeDrop_c es s g c w1 hE.out hsm.out hcap hsl
  rw [hpt.out] at hcl
  refine hcl.mono ?_
  rintro e w2 ⟨hPA, hPc, rfl, hOO, hB⟩
  clear hcl
  replace hC := hC.trans (hB.mono hC.size)
  replace hE := Lib.hid (hE.out.below hB hE.out.1)
  clear hB
  have hP := Lib.hid hOO
  clear hOO
  go_wp2_with fail
  have hcl := specTreeDrop_any es s g c w2 hE.out hsm.out hsl
  rw [hpt.out] at hcl
  refine hcl.mono ?_
  rintro e w3 ⟨hQA, hQc, rfl, hOO, hB⟩
  clear hcl
  replace hC := hC.trans (hB.mono hC.size)
  replace hE := Lib.hid (hE.out.below hB hE.out.1)
  replace hP := Lib.hid (hP.out.below hB)
  clear hB
  have hQ := Lib.hid hOO
  clear hOO
  go_wp2_with fail
  with_reducible refine (jsTree_sl fs _ _ _ _ w3 hP.out.sl hQ.out.sl hfl).mono ?_
  rintro e w4 ⟨rfl, hB⟩
  replace hC := hC.trans (hB.mono hC.size)
  replace hE := Lib.hid (hE.out.below hB hE.out.1)
  replace hP := Lib.hid (hP.out.below hB)
  replace hQ := Lib.hid (hQ.out.below hB)
  clear hB
  rcases boolOf (treeOk es) with hok | hok
  · skip
    go_wp2_with fail
    with_reducible refine (specTreeOk_any es g c w4 hE.out hsm.out).mono ?_
    rintro e w5 ⟨rfl, hB⟩
    replace hC := hC.trans (hB.mono hC.size)
    replace hE := Lib.hid (hE.out.below hB hE.out.1)
    replace hP := Lib.hid (hP.out.below hB)
    replace hQ := Lib.hid (hQ.out.below hB)
    clear hB
    rw [hok.out]
    go_wp2_with fail
    with_reducible refine (jsTree_sl fs _ _ _ _ w5 hP.out.sl hQ.out.sl hfl).mono ?_
    rintro e w6 ⟨rfl, hB⟩
    replace hC := hC.trans (hB.mono hC.size)
    replace hE := Lib.hid (hE.out.below hB hE.out.1)
    replace hP := Lib.hid (hP.out.below hB)
    replace hQ := Lib.hid (hQ.out.below hB)
    clear hB
    go_wp2
    go_ret
    exact ⟨rfl, hC⟩
  go_wp2_with fail
  with_reducible refine (specTreeOk_any es g c w4 hE.out hsm.out).mono ?_
  rintro e w5 ⟨rfl, hB⟩
  replace hC := hC.trans (hB.mono hC.size)
  replace hE := Lib.hid (hE.out.below hB hE.out.1)
  replace hP := Lib.hid (hP.out.below hB)
  replace hQ := Lib.hid (hQ.out.below hB)
  clear hB
  rw [hok.out]
  clear hb1 hb2 hQ
  rcases boolOf (there es s) with hth | hth
  · have h2 := hpt.out
    rw [treeDrop_no hok.out hth.out] at h2
    cases h2
    have hg0 := Lib.hid (show treeGet es s = none by rw [treeGet_ok hok.out]; exact getAt_no hth.out)
    go_wp2_with fail
    with_reducible refine (TreeGet_any es s g c w5 hE.out hsm.out hcap hsl).mono ?_
    rintro e w6 ⟨rfl, hB⟩
    replace hC := hC.trans (hB.mono hC.size)
    replace hE := Lib.hid (hE.out.below hB hE.out.1)
    replace hP := Lib.hid (hP.out.below hB)
    clear hB
    rw [hg0.out]
    simp only [entV]
    go_wp2_with fail
    obtain ⟨w7, hW⟩ : ∃ X, w6.alloc (.cells #[.string { data := #[] }, .int .i64 0, .int .i64 0, .string { data := #[] }] 31) = X := ⟨_, rfl⟩
    have hB : Below w6.heap.size w6 w7 := by rw [← hW]; exact (Below.refl _ _).alloc (Nat.le_refl _) _
    obtain ⟨x9b, hx9b⟩ : ∃ x, w6.heap.size = x := ⟨_, rfl⟩
    have x9 : Box4 w7 x9b 31 (.string { data := #[] }) (.int .i64 0) (.int .i64 0) (.string { data := #[] }) := by rw [← hW, ← hx9b]; exact Box4.new _ _ _ _ _ _
    replace x9 := Lib.hid x9
    replace hC := hC.trans (hB.mono hC.size)
    replace hE := Lib.hid (hE.out.below hB hE.out.1)
    replace hP := Lib.hid (hP.out.below hB)
    rw [hW, hx9b]
    clear hW hB hx9b
    with_reducible refine (jsTree_sl es _ _ _ _ w7 hP.out.sl (SlE.of hE.out) hfl).mono ?_
    rintro e w8 ⟨rfl, hB⟩
    replace hC := hC.trans (hB.mono hC.size)
    replace hE := Lib.hid (hE.out.below hB hE.out.1)
    replace hP := Lib.hid (hP.out.below hB)
    replace x9 := Lib.hid (x9.out.below hB x9.out.lt)
    clear hB
    go_wp2
    go_ret
    exact ⟨rfl, hC⟩
  have h2 := hpt.out
  rw [treeDrop_yes hok.out hth.out] at h2
  cases h2
  have hsne : s ≠ [] := by
    obtain ⟨hk, he⟩ := there_iff.1 hth.out
    have h3 := (pathOk_len (entryOk_path ((treeOk_is hok.out).ok _ hk))).1
    rw [he] at h3
    intro h; rw [h] at h3; simp at h3
  have hokf := Lib.hid (dropL_ok hok.out hsne)
  have hless := dropL_less hth.out
  have hfsm : Small (dropL es s) := ⟨hfl, fun i hi => by
    obtain ⟨h1, _⟩ := dropL_mem.1 (List.getElem_mem hi)
    obtain ⟨j, hj, h3⟩ := List.getElem_of_mem h1
    rw [← h3]; exact hsm.out.2 j hj⟩
  replace hfsm := Lib.hid hfsm
  replace hless := Lib.hid hless
  go_wp2
  go_loopw [11, 12] (fun jj ii wr => ∃ k : Nat, k ≤ es.length ∧ ii = .int .i64 k ∧ jj = .int .i64 (stayN es s k) ∧ Hid (Ents wr g es) ∧ Hid (InE wr hPA hPc (dropL es s)) ∧ Below w.heap.size w wr) (fun _ ii _ => es.length - (intOf ii).toNat)
  case atStart => exact ⟨0, Nat.zero_le _, rfl, rfl, hE, hP, hC⟩
  case round =>
    clear hE hP hC
    obtain ⟨k, hk, rfl, rfl, hE, hP, hC⟩ := hrel
    by_cases hlt : k < es.length
    · obtain ⟨w6, hwr⟩ : ∃ x, x = wr := ⟨_, rfl⟩
      subst hwr
      have hkI : (k : Int) < (es.length : Int) := by omega
      have hql := (hsm.out.2 k hlt).1
      have hpi : pathIn s es[k].path = below s es[k].path := by rw [stays_in hok.out hth.out hlt]; unfold stays; simp
      replace hpi := Lib.hid hpi
      obtain ⟨c0, c1', c2, c3⟩ := hE.out.2 k hlt
      go_wp2_with fail
      clear c0 c1' c2 c3
      with_reducible refine (PathIn_any s es[k].path (by omega) (by omega) w6).mono ?_
      rintro e w7 ⟨rfl, hB⟩
      replace hC := hC.trans (hB.mono hC.size)
      replace hE := Lib.hid (hE.out.below hB hE.out.1)
      replace hP := Lib.hid (hP.out.below hB)
      clear hB
      rw [hpi.out]
      rcases boolOf (below s es[k].path) with hb | hb
      case inr =>
        rw [hb.out]
        have hn := Lib.hid (stayN_no hlt hb.out)
        go_wp2
        go_round
        case rel => exact ⟨k + 1, by omega, by go_num, by rw [hn.out], hE, hP, hC⟩
        case measure => simp [intOf]; omega
      rw [hb.out]
      obtain ⟨hn, hat⟩ := stayN_yes hlt hb.out
      obtain ⟨hj, hje⟩ := at_eq hat
      obtain ⟨g2, hA2, hE2, hc2⟩ := hP.out.posD hj
      obtain ⟨d0, d1, d2, d3⟩ := hE2.2 _ hj
      rw [hje] at d0 d1 d2 d3
      obtain ⟨c0, c1', c2, c3⟩ := hE.out.2 k hlt
      have hjI : ((stayN es s k : Nat) : Int) < ((dropL es s).length : Int) := by omega
      have hjn : ¬ ((dropL es s).length : Int) ≤ ((stayN es s k : Nat) : Int) := by omega
      have hj17 : (stayN es s k : Nat) ≤ 17 := by have := hless.out; omega
      obtain ⟨x, hxe⟩ : ∃ x, es[k] = x := ⟨_, rfl⟩
      rw [hxe] at d0 d1 d2 d3 c0 c1' c2 c3
      clear hxe hb
      obtain ⟨p1, k1, m1, t1⟩ := x
      simp only at d0 d1 d2 d3 c0 c1' c2 c3
      have hnq := neqD_cells p1 p1 k1 m1 k1 m1 t1 t1 (sameE_refl _)
      have hgd := fun op x y => guardD_cells op x y p1 p1 k1 m1 k1 m1 t1 t1
      have hjd : (decide (((dropL es s).length : Int) ≤ ((stayN es s k : Nat) : Int))) = false := by simp only [decide_eq_false_iff_not]; exact hjn
      subst hA2
      replace hn := Lib.hid hn
      obtain ⟨jn, hjn2⟩ : ∃ x, stayN es s k = x := ⟨_, rfl⟩
      rw [hjn2] at d0 d1 d2 d3 hjI hjn hjd hj17 hn ⊢
      have hcap1 := hc2
      clear hat hje hE2 hc2 hjn2 hj hpi hql
      go_wp2_with fail
      first | refine wp_region_noPanic ?_ | skip
      refine wp_region_held_drew (S := (fun W' => W'.cell? ⟨g2, jn * 4, none⟩ = some (.string (mkB p1)) ∧ W'.cell? ⟨g2, jn * 4 + 1, none⟩ = some (.int .i64 k1) ∧ W'.cell? ⟨g2, jn * 4 + 2, none⟩ = some (.int .i64 m1) ∧ W'.cell? ⟨g2, jn * 4 + 3, none⟩ = some (.string (mkB t1)) ∧ W'.cell? ⟨g, k * 4, none⟩ = some (.string (mkB p1)) ∧ W'.cell? ⟨g, k * 4 + 1, none⟩ = some (.int .i64 k1) ∧ W'.cell? ⟨g, k * 4 + 2, none⟩ = some (.int .i64 m1) ∧ W'.cell? ⟨g, k * 4 + 3, none⟩ = some (.string (mkB t1)))) (by kernel_rfl) ?_ (fun hHeld => ?_)
      · exact ⟨d0, d1, d2, d3, c0, c1', c2, c3⟩
      refine wpAnyH_take (i := 0) (v := ?_) rfl (by kernel_rfl) (by kernel_rfl) (by kernel_rfl) (fun _ _ _ h => h) (Or.inl ⟨by rfl, ?_⟩) (by assumption) ?_
      rotate_left
      · (intro w hSw; (try dsimp only at hSw); go_simp; try with_reducible rfl)
      try simp only [Array.reduceGetElem, Act.put, List.setIfInBounds_toArray, List.set_cons_zero, List.set_cons_succ]
      refine wpAnyH_take (i := 1) (v := ?_) rfl (by kernel_rfl) (by kernel_rfl) (by kernel_rfl) (fun _ _ _ h => h) (Or.inl ⟨by rfl, ?_⟩) (by assumption) ?_
      rotate_left
      · (intro w hSw; (try dsimp only at hSw); go_simp; try with_reducible rfl)
      try simp only [Array.reduceGetElem, Act.put, List.setIfInBounds_toArray, List.set_cons_zero, List.set_cons_succ]
      refine wpAnyH_take (i := 2) (v := ?_) rfl (by kernel_rfl) (by kernel_rfl) (by kernel_rfl) (fun _ _ _ h => h) (Or.inl ⟨by rfl, ?_⟩) (by assumption) ?_
      rotate_left
      · (intro w hSw; (try dsimp only at hSw); go_simp; try with_reducible rfl)
      try simp only [Array.reduceGetElem, Act.put, List.setIfInBounds_toArray, List.set_cons_zero, List.set_cons_succ]
      refine wpAnyH_take (i := 3) (v := .bool false) rfl (by kernel_rfl) (by kernel_rfl) (by kernel_rfl) (fun _ _ _ h => h) (Or.inl ⟨by rfl, ?_⟩) (by assumption) ?_
      · (intro w hSw; (try dsimp only at hSw); go_simp; first | done | omega | (simp; omega) | skip)
      try simp only [Array.reduceGetElem, Act.put, List.setIfInBounds_toArray, List.set_cons_zero, List.set_cons_succ]
      refine wpAnyH_take (i := 4) (v := ?_) rfl (by kernel_rfl) (by kernel_rfl) (by kernel_rfl) (fun _ _ _ h => h) (Or.inl ⟨by rfl, ?_⟩) (by assumption) ?_
      rotate_left
      · (intro w hSw; (try dsimp only at hSw); go_simp; try with_reducible rfl)
      try simp only [Array.reduceGetElem, Act.put, List.setIfInBounds_toArray, List.set_cons_zero, List.set_cons_succ]
      refine wpAnyH_take (i := 5) (v := ?_) rfl (by kernel_rfl) (by kernel_rfl) (by kernel_rfl) (fun _ _ _ h => h) (Or.inl ⟨by rfl, ?_⟩) (by assumption) ?_
      rotate_left
      · (intro w hSw; (try dsimp only at hSw); go_simp; try with_reducible rfl)
      try simp only [Array.reduceGetElem, Act.put, List.setIfInBounds_toArray, List.set_cons_zero, List.set_cons_succ]
      refine wpAnyH_take (i := 6) (v := ?_) rfl (by kernel_rfl) (by kernel_rfl) (by kernel_rfl) (fun _ _ _ h => h) (Or.inl ⟨by rfl, ?_⟩) (by assumption) ?_
      rotate_left
      · (intro w hSw; (try dsimp only at hSw); go_simp; try with_reducible rfl)
      try simp only [Array.reduceGetElem, Act.put, List.setIfInBounds_toArray, List.set_cons_zero, List.set_cons_succ]
      refine wpAnyH_take (i := 7) (v := ?_) rfl (by kernel_rfl) (by kernel_rfl) (by kernel_rfl) (fun _ _ _ h => h) (Or.inl ⟨by rfl, ?_⟩) (by assumption) ?_
      rotate_left
      · (intro w hSw; (try dsimp only at hSw); go_simp; try with_reducible rfl)
      try simp only [Array.reduceGetElem, Act.put, List.setIfInBounds_toArray, List.set_cons_zero, List.set_cons_succ]
      refine wpAnyH_take (i := 8) (v := ?_) rfl (by kernel_rfl) (by kernel_rfl) (by kernel_rfl) (fun _ _ _ h => h) (Or.inl ⟨by rfl, ?_⟩) (by assumption) ?_
      rotate_left
      · (intro w hSw; (try dsimp only at hSw); go_simp; try with_reducible rfl)
      try simp only [Array.reduceGetElem, Act.put, List.setIfInBounds_toArray, List.set_cons_zero, List.set_cons_succ]
      refine wpAnyH_take (i := 9) (v := ?_) rfl (by kernel_rfl) (by kernel_rfl) (by kernel_rfl) (fun _ _ _ h => h) (Or.inl ⟨by rfl, ?_⟩) (by assumption) ?_
      rotate_left
      · (intro w hSw; (try dsimp only at hSw); go_simp; try with_reducible rfl)
      try simp only [Array.reduceGetElem, Act.put, List.setIfInBounds_toArray, List.set_cons_zero, List.set_cons_succ]
      refine wpAnyH_take (i := 10) (v := ?_) rfl (by kernel_rfl) (by kernel_rfl) (by kernel_rfl) (fun _ _ _ h => h) (Or.inl ⟨by rfl, ?_⟩) (by assumption) ?_
      rotate_left
      · (intro w hSw; (try dsimp only at hSw); go_simp; try with_reducible rfl)
      try simp only [Array.reduceGetElem, Act.put, List.setIfInBounds_toArray, List.set_cons_zero, List.set_cons_succ]
      refine wpAnyH_take (i := 11) (v := ?_) rfl (by kernel_rfl) (by kernel_rfl) (by kernel_rfl) (fun _ _ _ h => h) (Or.inl ⟨by rfl, ?_⟩) (by assumption) ?_
      rotate_left
      · (intro w hSw; (try dsimp only at hSw); go_simp; try with_reducible rfl)
      try simp only [Array.reduceGetElem, Act.put, List.setIfInBounds_toArray, List.set_cons_zero, List.set_cons_succ]
      refine wpAnyH_take (i := 12) (v := ?_) rfl (by kernel_rfl) (by kernel_rfl) (by kernel_rfl) (fun _ _ _ h => h) (Or.inl ⟨by rfl, ?_⟩) (by assumption) ?_
      rotate_left
      · (intro w hSw; (try dsimp only at hSw); go_simp; try with_reducible rfl)
      try simp only [Array.reduceGetElem, Act.put, List.setIfInBounds_toArray, List.set_cons_zero, List.set_cons_succ]
      refine wpAnyH_take (i := 13) (v := .bool false) rfl (by kernel_rfl) (by kernel_rfl) (by kernel_rfl) (fun _ _ _ h => h) (Or.inl ⟨by rfl, ?_⟩) (by assumption) ?_
      · (intro w hSw; (try dsimp only at hSw); go_simp; first | done | rfl | skip)
      try simp only [Array.reduceGetElem, Act.put, List.setIfInBounds_toArray, List.set_cons_zero, List.set_cons_succ]
      refine wpAnyH_take (i := 14) (v := ?_) rfl (by kernel_rfl) (by kernel_rfl) (by kernel_rfl) (fun _ _ _ h => h) (Or.inl ⟨by rfl, ?_⟩) (by assumption) ?_
      rotate_left
      · (intro w hSw; (try dsimp only at hSw); go_simp; try with_reducible rfl)
      try simp only [Array.reduceGetElem, Act.put, List.setIfInBounds_toArray, List.set_cons_zero, List.set_cons_succ]
      refine wpAnyH_done (by kernel_rfl) ?_ _
      try refine NoPanic.normal ?_
      (try dsimp only)
      go_wp2
      go_round
      case rel => exact ⟨k + 1, by omega, by go_num, by rw [hn.out]; go_num, hE, hP, hC.drew⟩
      case measure => simp [intOf]; omega
    · obtain rfl : k = es.length := by omega
      obtain ⟨w7, hwr⟩ : ∃ x, x = wr := ⟨_, rfl⟩
      subst hwr
      rw [stayN_all]
      have hlI : ((dropL es s).length : Int) < (es.length : Int) := by have := hless.out; omega
      go_wp2_with fail
      with_reducible refine (TreeOk_in (dropL es s) hPA hPc w7 hP.out hfsm.out).mono ?_
      rintro e w8 ⟨rfl, hB⟩
      replace hC := hC.trans (hB.mono hC.size)
      replace hE := Lib.hid (hE.out.below hB hE.out.1)
      replace hP := Lib.hid (hP.out.below hB)
      clear hB
      rw [hokf.out]
      go_wp2
      go_ret
      exact ⟨rfl, hC⟩
end Go.Proofs.YtjihpbioofikcaaDoor
