/-
  The walks of the reference's l2Move and TreeMove.
-/
import Derived.Test.YtjihpbioofikcaaDoorSortS
import Derived.Test.YtjihpbioofikcaaDoorMoveI
import Derived.Test.YtjihpbioofikcaaDoorGE
import Derived.Test.YtjihpbioofikcaaDoorGB
namespace Go.Proofs.YtjihpbioofikcaaDoor
open Go.RowKit
set_option linter.unusedVariables false
set_option linter.unusedSimpArgs false
attribute [local go_sem] mkB_size mkB_extract mkB_get mkB_append mkB_append_raw raw_append_mkB mkB_toList

def mvT (es : List En) (f t : List UInt8) (k : Nat) : List En := (es.take k).map (moveE f t)
theorem mvT_zero (es : List En) (f t : List UInt8) : mvT es f t 0 = [] := rfl
theorem mvT_all (es : List En) (f t : List UInt8) : mvT es f t es.length = es.map (moveE f t) := by unfold mvT; rw [List.take_length]
theorem mvT_next {es : List En} {f t : List UInt8} {k : Nat} (hk : k < es.length) : mvT es f t (k + 1) = mvT es f t k ++ [moveE f t es[k]] := by
  unfold mvT
  rw [List.take_succ_eq_append_getElem hk, List.map_append]; rfl
theorem mvT_length {es : List En} {f t : List UInt8} {k : Nat} (hk : k ≤ es.length) : (mvT es f t k).length = k := by simp [mvT]; omega
theorem moveL_no {es : List En} {f t : List UInt8} (h : moveB es f t = false) : moveL es f t = (es, false) := by unfold moveL; rw [h]; rfl
theorem moveL_long {es : List En} {f t : List UInt8} (h : movesOk es f t = false) : moveL es f t = (es, false) := by unfold moveL; rw [h]; simp
theorem moveL_yes {es : List En} {f t : List UInt8} (h : moveB es f t = true) (h2 : movesOk es f t = true) : moveL es f t = (sortE (es.map (moveE f t)), true) := by unfold moveL; rw [h, h2]; rfl
theorem box_below {n : Nat} {w W : World} {j : Nat} {v : Value} (h : Below n w W) (hn : n ≤ w.heap.size) : Below n w (W.setCell ⟨w.heap.size, j, none⟩ v) := h.setCell hn _

set_option maxRecDepth 1000000 in
set_option maxHeartbeats 16000000 in
theorem l2Move_any (es : List En) (f t : List UInt8) (g c : Nat) (w : World) (hE : Ents w g es) (hsm : Small es) (hf : f.length ≤ 1048576) (ht : t.length ≤ 1048576) :
    Calls Tryd.prog 61 #[.slice (some ⟨g, 0, none⟩) es.length c, .string (mkB f), .string (mkB t)] w (ResN (moveL es f t) w) := by
  have hEh := Lib.hid hE
  have hsh := Lib.hid hsm
  have hlen := hsm.1
  have hg := hE.1
  clear hE hsm
  obtain ⟨i0, hi, hz0, hz1, hz2⟩ := info_parts infoE
  replace hi := Lib.hid hi
  replace hz0 := Lib.hid hz0
  replace hz1 := Lib.hid hz1
  replace hz2 := Lib.hid hz2
  go_enter Tryd.func61, Tryd.ntmps61
  go_wp2_with fail
  with_reducible refine (l2At_any es f g c _ hEh.out hlen).mono ?_
  rintro r w3 ⟨rfl, hC3⟩
  have hE3 := Lib.hid (hEh.out.below hC3 hg)
  go_wp2_with fail
  with_reducible refine (l2At_any es t g c _ hE3.out hlen).mono ?_
  rintro r w4 ⟨rfl, hB4⟩
  have hC4 := hC3.trans (hB4.mono hC3.size)
  have hE4 := Lib.hid (hEh.out.below hC4 hg)
  obtain ⟨af, haf⟩ : ∃ k, atGo es f = k := ⟨_, rfl⟩
  obtain ⟨at', hat'⟩ : ∃ k, atGo es t = k := ⟨_, rfl⟩
  rw [haf, hat']
  clear haf hat'
  rcases boolOf (there es f) with htf | htf
  · rw [htf.out]
    have hex := Lib.hid (show moveB es f t = false from moveB_no1 htf.out)
    go_wp2_with fail
    with_reducible refine (l2Copy_own es g c _ hE4.out hlen).mono ?_
    rintro r wz ⟨gz, cz, rfl, hRz, hBz⟩
    have hCz := hC4.trans (hBz.mono hC4.size)
    have hsz := hC4.size
    replace hRz := Lib.hid hRz
    go_wp2
    refine bodyPost_ret (v := .tuple #[.slice (some ⟨gz, 0, none⟩) es.length cz, .bool false]) (by simp [results, Tryd.results61, go_sem]) rfl ?_
    rw [moveL_no hex.out]
    exact ⟨gz, cz, rfl, hRz.out.lower hsz, hCz⟩
  rw [htf.out]
  rcases boolOf (there es t) with htt | htt
  case inr =>
    rw [htt.out]
    have hex := Lib.hid (show moveB es f t = false from moveB_no2 htt.out)
    go_wp2_with fail
    with_reducible refine (l2Copy_own es g c _ hE4.out hlen).mono ?_
    rintro r wz ⟨gz, cz, rfl, hRz, hBz⟩
    have hCz := hC4.trans (hBz.mono hC4.size)
    have hsz := hC4.size
    replace hRz := Lib.hid hRz
    go_wp2
    refine bodyPost_ret (v := .tuple #[.slice (some ⟨gz, 0, none⟩) es.length cz, .bool false]) (by simp [results, Tryd.results61, go_sem]) rfl ?_
    rw [moveL_no hex.out]
    exact ⟨gz, cz, rfl, hRz.out.lower hsz, hCz⟩
  rw [htt.out]
  go_wp2_with fail
  with_reducible refine (l1Path_any t (by omega) _).mono ?_
  rintro r w5 ⟨rfl, hB5⟩
  have hC5 := hC4.trans (hB5.mono hC4.size)
  have hE5 := Lib.hid (hEh.out.below hC5 hg)
  rcases boolOf (pathOk t) with hpt | hpt
  · rw [hpt.out]
    have hex := Lib.hid (show moveB es f t = false from moveB_no3 hpt.out)
    go_wp2_with fail
    with_reducible refine (l2Copy_own es g c _ hE5.out hlen).mono ?_
    rintro r wz ⟨gz, cz, rfl, hRz, hBz⟩
    have hCz := hC5.trans (hBz.mono hC5.size)
    have hsz := hC5.size
    replace hRz := Lib.hid hRz
    go_wp2
    refine bodyPost_ret (v := .tuple #[.slice (some ⟨gz, 0, none⟩) es.length cz, .bool false]) (by simp [results, Tryd.results61, go_sem]) rfl ?_
    rw [moveL_no hex.out]
    exact ⟨gz, cz, rfl, hRz.out.lower hsz, hCz⟩
  rw [hpt.out]
  go_wp2_with fail
  with_reducible refine (l1Below_any f t (by omega) (by omega) _).mono ?_
  rintro r w6 ⟨rfl, rfl⟩
  rcases boolOf (below f t) with hbl | hbl
  case inr =>
    rw [hbl.out]
    have hex := Lib.hid (show moveB es f t = false from moveB_no4 hbl.out)
    go_wp2_with fail
    with_reducible refine (l2Copy_own es g c _ hE5.out hlen).mono ?_
    rintro r wz ⟨gz, cz, rfl, hRz, hBz⟩
    have hCz := hC5.trans (hBz.mono hC5.size)
    have hsz := hC5.size
    replace hRz := Lib.hid hRz
    go_wp2
    refine bodyPost_ret (v := .tuple #[.slice (some ⟨gz, 0, none⟩) es.length cz, .bool false]) (by simp [results, Tryd.results61, go_sem]) rfl ?_
    rw [moveL_no hex.out]
    exact ⟨gz, cz, rfl, hRz.out.lower hsz, hCz⟩
  rw [hbl.out]
  go_wp2_with fail
  with_reducible refine (l1Up_any t (by omega) _).mono ?_
  rintro r w6 ⟨rfl, rfl⟩
  go_wp2_with fail
  with_reducible refine (l2Dir_any es (upL t) g c _ hE5.out hlen).mono ?_
  rintro r w7 ⟨rfl, hB7⟩
  have hC7 := hC5.trans (hB7.mono hC5.size)
  have hE7 := Lib.hid (hEh.out.below hC7 hg)
  rcases boolOf (placeOk es (upL t)) with hpl | hpl
  · rw [hpl.out]
    have hex := Lib.hid (show moveB es f t = false from moveB_no5 hpl.out)
    go_wp2_with fail
    with_reducible refine (l2Copy_own es g c _ hE7.out hlen).mono ?_
    rintro r wz ⟨gz, cz, rfl, hRz, hBz⟩
    have hCz := hC7.trans (hBz.mono hC7.size)
    have hsz := hC7.size
    replace hRz := Lib.hid hRz
    go_wp2
    refine bodyPost_ret (v := .tuple #[.slice (some ⟨gz, 0, none⟩) es.length cz, .bool false]) (by simp [results, Tryd.results61, go_sem]) rfl ?_
    rw [moveL_no hex.out]
    exact ⟨gz, cz, rfl, hRz.out.lower hsz, hCz⟩
  rw [hpl.out]
  have hmb := Lib.hid (moveB_yes htf.out htt.out hpt.out hbl.out hpl.out)
  have hown0 := Lib.hid (World.ownsRow_made (base := w.heap.size) (e := 31) (size := 4) w7 #[] 0 hC7.size (by simp [maxLen]) rfl)
  go_wp2
  go_loopw [12, 13] (fun out ii wr => ∃ (k g1 c1 : Nat), k ≤ es.length ∧ ii = .int .i64 k ∧ out = .slice (some ⟨g1, 0, none⟩) k c1 ∧ Hid (OwnR wr w.heap.size g1 c1 (mvT es f t k)) ∧ Hid (∀ i (hi : i < es.length), i < k → pathOk (moveE f t es[i]).path = true) ∧ Below w.heap.size w wr) (fun _ ii _ => es.length - (intOf ii).toNat)
  case atStart => exact ⟨0, w7.heap.size, 0, Nat.zero_le _, rfl, rfl, Lib.hid (by unfold OwnR; simpa [flatE, mvT_zero] using hown0.out), Lib.hid (fun i hi h => by omega), hC7.alloc hC7.size _⟩
  case round =>
    clear hown0
    obtain ⟨k, g1, c1, hk, rfl, rfl, hrr, hall, hBr⟩ := hrel
    by_cases hlt : k < es.length
    · have hkI : (k : Int) < (es.length : Int) := by omega
      have hE8 := hEh.out.below hBr hg
      obtain ⟨c0, c1', c2, c3⟩ := hE8.2 k hlt
      clear hE8
      have hpl0 := (hsh.out.2 k hlt).1
      have hpk := Lib.hid (mvT_length (es := es) (f := f) (t := t) hk)
      have hnx := Lib.hid (mvT_next (f := f) (t := t) hlt)
      have hgl := hrr.out.lt
      have hws := hBr.size
      obtain ⟨p, hp⟩ : ∃ x, es[k].path = x := ⟨_, rfl⟩
      obtain ⟨kd, hkd⟩ : ∃ x, es[k].kind = x := ⟨_, rfl⟩
      obtain ⟨md, hmd⟩ : ∃ x, es[k].mode = x := ⟨_, rfl⟩
      obtain ⟨tx, htx⟩ : ∃ x, es[k].text = x := ⟨_, rfl⟩
      have hee : es[k] = ⟨p, kd, md, tx⟩ := by rw [← hp, ← hkd, ← hmd, ← htx]
      rw [hp] at c0 hpl0
      rw [hkd] at c1'
      rw [hmd] at c2
      rw [htx] at c3
      clear hkd hmd htx hp
      replace hee := Lib.hid hee
      go_wp2_with fail
      obtain ⟨Wb, hWb⟩ : ∃ X, wr.alloc (.cells #[.string (mkB p), .int .i64 kd, .int .i64 md, .string (mkB tx)] 31) = X := ⟨_, rfl⟩
      have hb1 : Box4 Wb wr.heap.size 31 (.string (mkB p)) (.int .i64 kd) (.int .i64 md) (.string (mkB tx)) := by rw [← hWb]; exact Box4.new _ _ _ _ _ _
      have hB1 : Below wr.heap.size wr Wb := by rw [← hWb]; exact (Below.refl _ _).alloc (Nat.le_refl _) _
      rw [hWb]
      clear hWb c0 c1' c2 c3
      with_reducible refine (l1Below_any f p (by omega) (by omega) _).mono ?_
      rintro r wa ⟨rfl, rfl⟩
      have d0 := hb1.cell0
      rcases boolOf (below f p) with hbp | hbp
      · rw [hbp.out]
        have hme : moveE f t es[k] = ⟨p, kd, md, tx⟩ := by rw [hee.out]; unfold moveE; rw [hbp.out]; rfl
        rw [hme] at hnx
        replace hme := Lib.hid hme
        have hqm : p.length ≤ 1048576 := hpl0
        go_wp2_with fail
        with_reducible refine (l1Path_any p (by omega) _).mono ?_
        rintro r wc ⟨rfl, hBc⟩
        have hCc := hB1.trans (hBc.mono hB1.size)
        have hbc := hb1.below hBc hb1.lt
        have hCw := hBr.trans (hCc.mono hws)
        clear hb1
        try clear d0
        rcases boolOf (pathOk p) with hq | hq
        · rw [hq.out]
          have hno := Lib.hid (movesOk_no (f := f) (t := t) hlt (by rw [hme.out]; exact hq.out))
          have hEs := Lib.hid (hEh.out.below hCw hg)
          go_wp2_with fail
          with_reducible refine (l2Copy_own es g c _ hEs.out hlen).mono ?_
          rintro r w9 ⟨g9, c9, rfl, hR9, hB9⟩
          have hC9 := hCw.trans (hB9.mono hCw.size)
          have hss := hCw.size
          replace hR9 := Lib.hid hR9
          go_wp2
          refine bodyPost_ret (v := .tuple #[.slice (some ⟨g9, 0, none⟩) es.length c9, .bool false]) (by simp [results, Tryd.results61, go_sem]) rfl ?_
          rw [moveL_long hno.out]
          exact ⟨g9, c9, rfl, hR9.out.lower hss, hC9⟩
        · rw [hq.out]
          have hrow := hrr.out.below hCc hgl
          unfold OwnR at hrow
          rw [hpk.out] at hrow
          replace hrow := Lib.hid hrow
          have d0 := hbc.cell0
          have d1 := hbc.cell1
          have d2 := hbc.cell2
          have d3 := hbc.cell3
          have h63 : k + 1 ≤ maxLen := by simp only [maxLen]; omega
          have hby : (k + 1) * 48 ≤ 140737488355328 := by omega
          have hbs := hCw.size
          have hone := Lib.hid (cellsE_one ⟨p, kd, md, tx⟩)
          have hmok : pathOk (moveE f t es[k]).path = true := by rw [hme.out]; exact hq.out
          replace hmok := Lib.hid hmok
          replace hbc := Lib.hid hbc
          go_wp2_with (at_builtin; go_loud (refine wpList_push rfl _ _ 27 rfl w.heap.size 31 i0 _ 4 48 Tryd.underlying27 hi.out hz0.out hz1.out hz2.out rfl (by decide) wc _ k (flatE (mvT es f t k)) hrow.out rfl (cellsE ⟨p, kd, md, tx⟩) rfl rfl hone.out h63 hby hbs ?_); intro g2 c2 w2 hown2 hgr2 hB2 _)
          have hown3 : OwnR w2 w.heap.size g2 c2 (mvT es f t (k + 1)) := by unfold OwnR; rw [hnx.out, flatE_snoc, List.length_append, hpk.out]; exact hown2
          replace hown3 := Lib.hid hown3
          clear hown2 hgr2
          go_wp2
          go_round
          case rel => exact ⟨k + 1, g2, c2, by omega, by go_num, rfl, hown3, Lib.hid (fun i hi h => by
            rcases Nat.lt_or_ge i k with h1 | h1
            · exact hall.out i hi h1
            · obtain rfl : i = k := by omega
              exact hmok.out), hCw.trans hB2⟩
          case measure => simp [intOf]; omega
      · rw [hbp.out]
        have hfl := below_len hbp.out
        have hcat : (mkB t).size + (mkB (p.drop f.length)).size ≤ 140737488355328 := by simp [mkB_size]; omega
        have htk : (p.drop f.length).take (p.length - f.length) = p.drop f.length := List.take_of_length_le (by simp)
        have hqm : (t ++ p.drop f.length).length ≤ 1099511627776 := by simp; omega
        have hme : moveE f t es[k] = ⟨t ++ p.drop f.length, kd, md, tx⟩ := by rw [hee.out]; unfold moveE; rw [hbp.out]; rfl
        rw [hme] at hnx
        replace hme := Lib.hid hme
        obtain ⟨q, hqq⟩ : ∃ x, t ++ p.drop f.length = x := ⟨_, rfl⟩
        rw [hqq] at hnx hme hqm
        have f0 := hb1.frozen 0
        have hb1 := Lib.hid (hb1.set0 (.string (mkB q)))
        have hB1 := box_below (j := 0) (v := .string (mkB q)) hB1 (Nat.le_refl _)
        replace hqq := Lib.hid hqq
        go_wp2_with fail
        rw [hqq.out]
        obtain ⟨Wc, hWc⟩ : ∃ X, Wb.setCell ⟨wr.heap.size, 0, none⟩ (.string (mkB q)) = X := ⟨_, rfl⟩
        replace hb1 := hb1.out
        rw [hWc] at hb1 hB1 ⊢
        clear hWc f0
        with_reducible refine (l1Path_any q (by omega) _).mono ?_
        rintro r wc ⟨rfl, hBc⟩
        have hCc := hB1.trans (hBc.mono hB1.size)
        have hbc := hb1.below hBc hb1.lt
        have hCw := hBr.trans (hCc.mono hws)
        clear hb1
        try clear d0
        rcases boolOf (pathOk q) with hq | hq
        · rw [hq.out]
          have hno := Lib.hid (movesOk_no (f := f) (t := t) hlt (by rw [hme.out]; exact hq.out))
          have hEs := Lib.hid (hEh.out.below hCw hg)
          go_wp2_with fail
          with_reducible refine (l2Copy_own es g c _ hEs.out hlen).mono ?_
          rintro r w9 ⟨g9, c9, rfl, hR9, hB9⟩
          have hC9 := hCw.trans (hB9.mono hCw.size)
          have hss := hCw.size
          replace hR9 := Lib.hid hR9
          go_wp2
          refine bodyPost_ret (v := .tuple #[.slice (some ⟨g9, 0, none⟩) es.length c9, .bool false]) (by simp [results, Tryd.results61, go_sem]) rfl ?_
          rw [moveL_long hno.out]
          exact ⟨g9, c9, rfl, hR9.out.lower hss, hC9⟩
        · rw [hq.out]
          have hrow := hrr.out.below hCc hgl
          unfold OwnR at hrow
          rw [hpk.out] at hrow
          replace hrow := Lib.hid hrow
          have d0 := hbc.cell0
          have d1 := hbc.cell1
          have d2 := hbc.cell2
          have d3 := hbc.cell3
          have h63 : k + 1 ≤ maxLen := by simp only [maxLen]; omega
          have hby : (k + 1) * 48 ≤ 140737488355328 := by omega
          have hbs := hCw.size
          have hone := Lib.hid (cellsE_one ⟨q, kd, md, tx⟩)
          have hmok : pathOk (moveE f t es[k]).path = true := by rw [hme.out]; exact hq.out
          replace hmok := Lib.hid hmok
          replace hbc := Lib.hid hbc
          go_wp2_with (at_builtin; go_loud (refine wpList_push rfl _ _ 27 rfl w.heap.size 31 i0 _ 4 48 Tryd.underlying27 hi.out hz0.out hz1.out hz2.out rfl (by decide) wc _ k (flatE (mvT es f t k)) hrow.out rfl (cellsE ⟨q, kd, md, tx⟩) rfl rfl hone.out h63 hby hbs ?_); intro g2 c2 w2 hown2 hgr2 hB2 _)
          have hown3 : OwnR w2 w.heap.size g2 c2 (mvT es f t (k + 1)) := by unfold OwnR; rw [hnx.out, flatE_snoc, List.length_append, hpk.out]; exact hown2
          replace hown3 := Lib.hid hown3
          clear hown2 hgr2
          go_wp2
          go_round
          case rel => exact ⟨k + 1, g2, c2, by omega, by go_num, rfl, hown3, Lib.hid (fun i hi h => by
            rcases Nat.lt_or_ge i k with h1 | h1
            · exact hall.out i hi h1
            · obtain rfl : i = k := by omega
              exact hmok.out), hCw.trans hB2⟩
          case measure => simp [intOf]; omega
    · obtain rfl : k = es.length := by omega
      have hrow := hrr.out
      rw [mvT_all] at hrow
      have hal : (es.map (moveE f t)).length = es.length := by simp
      have hmy := Lib.hid (movesOk_yes (fun i hi h => hall.out i hi h))
      have hsc := l2Sorted_any (es.map (moveE f t)) g1 c1 wr hrow.parts.1.ents (by omega)
      rw [hal] at hsc
      replace hsc := Lib.hid hsc
      clear hrow hrr
      go_wp2_with fail
      with_reducible refine hsc.out.mono ?_
      rintro r w9 ⟨g9, c9, rfl, hR9, hB9⟩
      have hC9 := hBr.trans (hB9.mono hBr.size)
      have hss := hBr.size
      have hsl := Lib.hid (sortE_length (es.map (moveE f t)))
      replace hR9 := Lib.hid hR9
      go_wp2
      refine bodyPost_ret (v := .tuple #[.slice (some ⟨g9, 0, none⟩) (sortE (es.map (moveE f t))).length c9, .bool true]) (by simp [results, Tryd.results61, go_sem]) rfl ?_
      rw [moveL_yes hmb.out hmy.out]
      exact ⟨g9, c9, rfl, hR9.out.lower hss, hC9⟩

set_option maxRecDepth 1000000 in
set_option maxHeartbeats 8000000 in
theorem specTreeMove_any (es : List En) (f t : List UInt8) (g c : Nat) (w : World) (hE : Ents w g es) (hsm : Small es) (hcap : es.length ≤ c) (hf : f.length ≤ 1048576) (ht : t.length ≤ 1048576) :
    Calls Tryd.prog 30 #[.slice (some ⟨g, 0, none⟩) es.length c, .string (mkB f), .string (mkB t)] w (ResE (treeMove es f t) w) := by
  have hEh := Lib.hid hE
  have hsh := Lib.hid hsm
  have hlen := hsm.1
  have hg := hE.1
  clear hE hsm
  go_enter Tryd.func30, Tryd.ntmps30
  go_wp2_with fail
  with_reducible refine (specTreeOk_any es g c _ hEh.out hsh.out).mono ?_
  rintro r w2 ⟨rfl, hB⟩
  rcases boolOf (treeOk es) with hok | hok
  · rw [hok.out]
    go_wp2
    refine bodyPost_ret (v := .tuple #[.slice (some ⟨w2.heap.size, 0, none⟩) 0 0, .bool false]) (by simp [results, Tryd.results30, go_sem]) rfl ?_
    rw [treeMove_bad hok.out]
    exact ⟨some ⟨w2.heap.size, 0, none⟩, 0, rfl, .inl rfl, hB.alloc hB.size _⟩
  rw [hok.out]
  have hE2 := Lib.hid (hEh.out.below hB hg)
  go_wp2_with fail
  with_reducible refine (l2Move_any es f t g c _ hE2.out hsh.out hf ht).mono ?_
  rintro r w3 ⟨g3, c3, rfl, hR3, hB3⟩
  have hC3 := hB.trans (hB3.mono hB.size)
  have hs2 := hB.size
  replace hR3 := Lib.hid hR3
  obtain ⟨⟨fs, b⟩, hx⟩ : ∃ x, moveL es f t = x := ⟨_, rfl⟩
  simp only [hx] at hR3 ⊢
  replace hx := Lib.hid hx
  go_wp2
  refine bodyPost_ret (v := .tuple #[.slice (some ⟨g3, 0, none⟩) fs.length c3, .bool b]) (by simp [results, Tryd.results30, go_sem]) rfl ?_
  rw [show treeMove es f t = (fs, b) by unfold treeMove; rw [hok.out, ← hx.out]; rfl]
  exact ⟨some ⟨g3, 0, none⟩, c3, rfl, (hR3.out.lower hs2).own, hC3⟩
end Go.Proofs.YtjihpbioofikcaaDoor
