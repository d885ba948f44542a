/-
  The walk of the program's TreeMove.
-/
import Derived.Test.YtjihpbioofikcaaDoorSortI
import Derived.Test.YtjihpbioofikcaaDoorNilE
namespace Go.Proofs.YtjihpbioofikcaaDoor
open Go.RowKit
set_option linter.unusedVariables false
set_option linter.unusedSimpArgs false
attribute [local go_sem] mkB_size mkB_extract mkB_get mkB_append mkB_append_raw raw_append_mkB mkB_toList

/-- one path is written -/
theorem RowE.setPath {w : World} {g m k : Nat} {es : List En} (h : RowE w g m es.length es) (q : List UInt8) (hk : k < es.length) (hm : es.length ≤ m) :
    RowE (w.setCell ⟨g, k * 4, none⟩ (.string (mkB q))) g m (es.set k { es[k] with path := q }).length (es.set k { es[k] with path := q }) := by
  obtain ⟨cur, hh, hs, hc⟩ := h
  refine ⟨_, heap_set hh, by simp [hs], fun i hi _ => ?_⟩
  simp only [List.length_set] at hi
  simp only [Array.getElem?_setIfInBounds, Array.size_setIfInBounds, hs]
  obtain ⟨c0, c1, c2, c3⟩ := hc i hi hi
  by_cases hik : k = i
  · subst hik
    rw [List.getElem_set_self]
    refine ⟨?_, ?_, ?_, ?_⟩
    · rw [if_pos rfl, if_pos (by omega)]
    · rw [if_neg (by omega)]; exact c1
    · rw [if_neg (by omega)]; exact c2
    · rw [if_neg (by omega)]; exact c3
  · rw [List.getElem_set_ne hik]
    refine ⟨?_, ?_, ?_, ?_⟩
    · rw [if_neg (by omega)]; exact c0
    · rw [if_neg (by omega)]; exact c1
    · rw [if_neg (by omega)]; exact c2
    · rw [if_neg (by omega)]; exact c3
/-- the first k are moved -/
def mvL (es : List En) (f t : List UInt8) (k : Nat) : List En := (es.take k).map (moveE f t) ++ es.drop k
theorem mvL_length (es : List En) (f t : List UInt8) (k : Nat) : (mvL es f t k).length = es.length := by simp [mvL]; omega
theorem mvL_zero (es : List En) (f t : List UInt8) : mvL es f t 0 = es := by simp [mvL]
theorem mvL_all (es : List En) (f t : List UInt8) : mvL es f t es.length = es.map (moveE f t) := by simp [mvL]
theorem mvL_at {es : List En} {f t : List UInt8} {k : Nat} (hk : k < es.length) : (mvL es f t k)[k]'(by rw [mvL_length]; exact hk) = es[k] := by
  simp only [mvL]
  rw [List.getElem_append_right (by simp; omega)]
  simp [Nat.min_eq_left (Nat.le_of_lt hk)]
theorem mvL_next {es : List En} {f t : List UInt8} {k : Nat} (hk : k < es.length) : mvL es f t (k + 1) = (mvL es f t k).set k (moveE f t es[k]) := by
  unfold mvL
  rw [List.set_append_right _ _ (by simp; omega)]
  rw [List.take_succ_eq_append_getElem hk, List.map_append]
  have : k - ((es.take k).map (moveE f t)).length = 0 := by simp; omega
  rw [this]
  rw [List.drop_eq_getElem_cons hk, List.set_cons_zero]
  simp only [List.map_cons, List.map_nil, List.append_assoc, List.singleton_append, List.cons_append, List.nil_append]
theorem mvL_same {es : List En} {f t : List UInt8} {k : Nat} (hk : k < es.length) (h : below f es[k].path = false) : mvL es f t (k + 1) = mvL es f t k := by
  rw [mvL_next hk]
  have : moveE f t es[k] = es[k] := by unfold moveE; rw [h]; rfl
  rw [this]
  conv => lhs; arg 3; rw [← mvL_at (f := f) (t := t) hk]
  exact List.set_getElem_self _
theorem movesOk_no {es : List En} {f t : List UInt8} {k : Nat} (hk : k < es.length) (h : pathOk (moveE f t es[k]).path = false) : movesOk es f t = false := by
  unfold movesOk
  rw [List.all_eq_false]
  exact ⟨es[k], List.getElem_mem hk, by rw [h]; simp⟩
theorem movesOk_yes {es : List En} {f t : List UInt8} (h : ∀ i (hi : i < es.length), i < es.length → pathOk (moveE f t es[i]).path = true) : movesOk es f t = true := by
  unfold movesOk
  rw [List.all_eq_true]
  intro e he
  obtain ⟨i, hi, rfl⟩ := List.getElem_of_mem he
  exact h i hi hi
theorem pathIn_tree {es : List En} {f p : List UInt8} (hok : treeOk es = true) (hf : there es f = true) (hp : pathOk p = true) : pathIn f p = below f p := by
  obtain ⟨hk, he⟩ := there_iff.1 hf
  have hpf : pathOk f = true := by rw [← he]; exact entryOk_path ((treeOk_is hok).ok _ hk)
  unfold pathIn
  rw [hpf, hp]; rfl
theorem pathMove_is {es : List En} {f t p : List UInt8} (hok : treeOk es = true) (hf : there es f = true) (hp : pathOk p = true) (ht : pathOk t = true) (hb : below f p = true) :
    pathMove p f t = if pathOk (t ++ p.drop f.length) then t ++ p.drop f.length else [] := by
  unfold pathMove
  rw [pathIn_tree hok hf hp, hb, ht]
  rfl
theorem moveB_no1 {es : List En} {f t : List UInt8} (h : there es f = false) : moveB es f t = false := by unfold moveB; rw [h]; rfl
theorem moveB_no2 {es : List En} {f t : List UInt8} (h : there es t = true) : moveB es f t = false := by unfold moveB; rw [h]; simp
theorem moveB_no3 {es : List En} {f t : List UInt8} (h : pathOk t = false) : moveB es f t = false := by unfold moveB; rw [h]; simp
theorem moveB_no4 {es : List En} {f t : List UInt8} (h : below f t = true) : moveB es f t = false := by unfold moveB; rw [h]; simp
theorem moveB_no5 {es : List En} {f t : List UInt8} (h : placeOk es (upL t) = false) : moveB es f t = false := by unfold moveB; rw [h]; simp
theorem moveB_yes {es : List En} {f t : List UInt8} (h1 : there es f = true) (h2 : there es t = false) (h3 : pathOk t = true) (h4 : below f t = false) (h5 : placeOk es (upL t) = true) : moveB es f t = true := by unfold moveB; rw [h1, h2, h3, h4, h5]; rfl

def ResB (x : List En × Bool) (w : World) (r : Ending) (w' : World) : Prop := ∃ A c', r = .returned (.tuple #[.slice A x.1.length c', .bool x.2]) ∧ OwnE w' w.heap.size A x.1 ∧ Below w.heap.size w w' ∧ InE w' A c' x.1
set_option maxRecDepth 1000000 in
set_option maxHeartbeats 16000000 in
theorem TreeMove_both (es : List En) (f t : List UInt8) (g c : Nat) (w : World) (hE : Ents w g es) (hsm : Small es) (hcap : es.length ≤ c) (hf : f.length ≤ 1048576) (ht : t.length ≤ 1048576) :
    Calls Tryd.prog 31 #[.slice (some ⟨g, 0, none⟩) es.length c, .string (mkB f), .string (mkB t)] w (ResB (treeMove es f t) w) := by
  have hEh := Lib.hid hE
  have hsh := Lib.hid hsm
  have hlen := hsm.1
  have hg := hE.1
  have htm : (mkB t).size ≤ 140737488355328 := by rw [mkB_size]; omega
  have hmf : (mkB f).size ≤ 140737488355328 := by rw [mkB_size]; omega
  clear hE hsm
  go_enter Tryd.func31, Tryd.ntmps31
  go_wp2_with fail
  with_reducible refine (TreeOk_any es g c _ hEh.out hsh.out hcap).mono ?_
  rintro r w2 ⟨rfl, hB⟩
  have hE2 := Lib.hid (hEh.out.below hB hg)
  rcases boolOf (treeOk es) with hok | hok
  · rw [hok.out]
    go_wp2
    refine bodyPost_ret (v := .tuple #[.slice none 0 0, .bool false]) (by simp [results, Tryd.results31, go_sem]) rfl ?_
    rw [treeMove_bad hok.out]
    exact ⟨none, 0, rfl, .inl rfl, hB, .inl ⟨rfl, rfl, rfl⟩⟩
  rw [hok.out]
  have hsrt := Lib.hid (treeOk_is hok.out).sorted
  go_wp2_with fail
  with_reducible refine (findEntry_any es f g c _ hE2.out hsrt.out hlen).mono ?_
  rintro r w3 ⟨rfl, hB3⟩
  have hC3 := hB.trans (hB3.mono hB.size)
  have hE3 := Lib.hid (hEh.out.below hC3 hg)
  go_wp2_with fail
  with_reducible refine (findEntry_any es t g c _ hE3.out hsrt.out hlen).mono ?_
  rintro r w4 ⟨rfl, hB4⟩
  have hC4 := hC3.trans (hB4.mono hC3.size)
  have hE4 := Lib.hid (hEh.out.below hC4 hg)
  obtain ⟨af, haf⟩ : ∃ k, atGo es f = k := ⟨_, rfl⟩
  obtain ⟨at', hat'⟩ : ∃ k, atGo es t = k := ⟨_, rfl⟩
  rw [haf, hat']
  clear haf hat'
  rcases boolOf (there es f) with htf | htf
  · rw [htf.out]
    have hex := Lib.hid (show moveB es f t = false from moveB_no1 htf.out)
    go_wp2_with fail
    with_reducible refine (Clone_own es g c _ hE4.out hlen).mono ?_
    rintro r wz ⟨gz, cz, rfl, hRz, hBz⟩
    have hCz := hC4.trans (hBz.mono hC4.size)
    have hsz := hC4.size
    replace hRz := Lib.hid hRz
    go_wp2
    refine bodyPost_ret (v := .tuple #[.slice (some ⟨gz, 0, none⟩) es.length cz, .bool false]) (by simp [results, Tryd.results31, go_sem]) rfl ?_
    rw [treeMove_no hok.out hex.out]
    exact ⟨some ⟨gz, 0, none⟩, cz, rfl, (hRz.out.lower hsz).own, hCz, .inr ⟨gz, rfl, hRz.out.parts.1.ents, hRz.out.parts.2.2.1⟩⟩
  rw [htf.out]
  rcases boolOf (there es t) with htt | htt
  case inr =>
    rw [htt.out]
    have hex := Lib.hid (show moveB es f t = false from moveB_no2 htt.out)
    go_wp2_with fail
    with_reducible refine (Clone_own es g c _ hE4.out hlen).mono ?_
    rintro r wz ⟨gz, cz, rfl, hRz, hBz⟩
    have hCz := hC4.trans (hBz.mono hC4.size)
    have hsz := hC4.size
    replace hRz := Lib.hid hRz
    go_wp2
    refine bodyPost_ret (v := .tuple #[.slice (some ⟨gz, 0, none⟩) es.length cz, .bool false]) (by simp [results, Tryd.results31, go_sem]) rfl ?_
    rw [treeMove_no hok.out hex.out]
    exact ⟨some ⟨gz, 0, none⟩, cz, rfl, (hRz.out.lower hsz).own, hCz, .inr ⟨gz, rfl, hRz.out.parts.1.ents, hRz.out.parts.2.2.1⟩⟩
  rw [htt.out]
  go_wp2_with fail
  with_reducible refine (PathOk_any _ htm _).mono ?_
  rintro r w5 ⟨rfl, hB5⟩
  rw [mkB_data]
  have hC5 := hC4.trans (hB5.mono hC4.size)
  have hE5 := Lib.hid (hEh.out.below hC5 hg)
  rcases boolOf (pathOk t) with hpt | hpt
  · rw [hpt.out]
    have hex := Lib.hid (show moveB es f t = false from moveB_no3 hpt.out)
    go_wp2_with fail
    with_reducible refine (Clone_own es g c _ hE5.out hlen).mono ?_
    rintro r wz ⟨gz, cz, rfl, hRz, hBz⟩
    have hCz := hC5.trans (hBz.mono hC5.size)
    have hsz := hC5.size
    replace hRz := Lib.hid hRz
    go_wp2
    refine bodyPost_ret (v := .tuple #[.slice (some ⟨gz, 0, none⟩) es.length cz, .bool false]) (by simp [results, Tryd.results31, go_sem]) rfl ?_
    rw [treeMove_no hok.out hex.out]
    exact ⟨some ⟨gz, 0, none⟩, cz, rfl, (hRz.out.lower hsz).own, hCz, .inr ⟨gz, rfl, hRz.out.parts.1.ents, hRz.out.parts.2.2.1⟩⟩
  rw [hpt.out]
  have hpin := Lib.hid (pathIn_tree hok.out htf.out hpt.out)
  go_wp2_with fail
  with_reducible refine (PathIn_any f t (by omega) (by omega) _).mono ?_
  rintro r w6 ⟨rfl, hB6⟩
  rw [hpin.out]
  have hC6 := hC5.trans (hB6.mono hC5.size)
  have hE6 := Lib.hid (hEh.out.below hC6 hg)
  rcases boolOf (below f t) with hbl | hbl
  case inr =>
    rw [hbl.out]
    have hex := Lib.hid (show moveB es f t = false from moveB_no4 hbl.out)
    go_wp2_with fail
    with_reducible refine (Clone_own es g c _ hE6.out hlen).mono ?_
    rintro r wz ⟨gz, cz, rfl, hRz, hBz⟩
    have hCz := hC6.trans (hBz.mono hC6.size)
    have hsz := hC6.size
    replace hRz := Lib.hid hRz
    go_wp2
    refine bodyPost_ret (v := .tuple #[.slice (some ⟨gz, 0, none⟩) es.length cz, .bool false]) (by simp [results, Tryd.results31, go_sem]) rfl ?_
    rw [treeMove_no hok.out hex.out]
    exact ⟨some ⟨gz, 0, none⟩, cz, rfl, (hRz.out.lower hsz).own, hCz, .inr ⟨gz, rfl, hRz.out.parts.1.ents, hRz.out.parts.2.2.1⟩⟩
  rw [hbl.out]
  go_wp2_with fail
  with_reducible refine (hasPlaceFor_any es t g c _ hE6.out hsrt.out hlen ht).mono ?_
  rintro r w7 ⟨rfl, hB7⟩
  rw [pathUp_ok hpt.out]
  have hC7 := hC6.trans (hB7.mono hC6.size)
  have hE7 := Lib.hid (hEh.out.below hC7 hg)
  rcases boolOf (placeOk es (upL t)) with hpl | hpl
  · rw [hpl.out]
    have hex := Lib.hid (show moveB es f t = false from moveB_no5 hpl.out)
    go_wp2_with fail
    with_reducible refine (Clone_own es g c _ hE7.out hlen).mono ?_
    rintro r wz ⟨gz, cz, rfl, hRz, hBz⟩
    have hCz := hC7.trans (hBz.mono hC7.size)
    have hsz := hC7.size
    replace hRz := Lib.hid hRz
    go_wp2
    refine bodyPost_ret (v := .tuple #[.slice (some ⟨gz, 0, none⟩) es.length cz, .bool false]) (by simp [results, Tryd.results31, go_sem]) rfl ?_
    rw [treeMove_no hok.out hex.out]
    exact ⟨some ⟨gz, 0, none⟩, cz, rfl, (hRz.out.lower hsz).own, hCz, .inr ⟨gz, rfl, hRz.out.parts.1.ents, hRz.out.parts.2.2.1⟩⟩
  rw [hpl.out]
  have hmb := Lib.hid (moveB_yes htf.out htt.out hpt.out hbl.out hpl.out)
  go_wp2_with fail
  with_reducible refine (Clone_own es g c _ hE7.out hlen).mono ?_
  rintro r w8 ⟨g8, c8, rfl, hR8, hB8⟩
  have hC8 := hC7.trans (hB8.mono hC7.size)
  obtain ⟨hr8, hlo8, hnc8, hm8⟩ := hR8.parts
  have hlo : w.heap.size ≤ g8 := by have := hC7.size; omega
  have hr0 := Lib.hid (show RowE w8 g8 c8 (mvL es f t 0).length (mvL es f t 0) by rw [mvL_zero]; exact hr8)
  unfold maxLen at hm8
  clear hR8 hr8
  go_wp2
  go_loopw [57] (fun i wr => ∃ k : Nat, k ≤ es.length ∧ i = .int .i64 k ∧ Hid (RowE wr g8 c8 (mvL es f t k).length (mvL es f t k)) ∧ Hid (∀ i (hi : i < es.length), i < k → pathOk (moveE f t es[i]).path = true) ∧ Below w.heap.size w wr) (fun i _ => es.length - (intOf i).toNat)
  case atStart => exact ⟨0, Nat.zero_le _, rfl, hr0, Lib.hid (fun i hi h => by omega), hC8⟩
  case round =>
    clear hr0
    obtain ⟨k, hk, rfl, hrr, hall, hBr⟩ := hrel
    by_cases hlt : k < es.length
    · have hkI : (k : Int) < (es.length : Int) := by omega
      have hkc : (k : Int) ≤ (c8 : Int) := by omega
      have hml := mvL_length es f t k
      obtain ⟨c0, c1, c2, c3⟩ := hrr.out.ents.2 k (by omega)
      rw [mvL_at hlt] at c0 c1 c2 c3
      have hpl0 := (hsh.out.2 k hlt).1
      have hpk := Lib.hid (entryOk_path ((treeOk_is hok.out).ok k hlt))
      have hpin2 := Lib.hid (pathIn_tree hok.out htf.out hpk.out)
      have hgl := hrr.out.lt
      replace hml := Lib.hid hml
      obtain ⟨p, hp⟩ : ∃ x, es[k].path = x := ⟨_, rfl⟩
      obtain ⟨kd, hkd⟩ : ∃ x, es[k].kind = x := ⟨_, rfl⟩
      obtain ⟨md, hmd⟩ : ∃ x, es[k].mode = x := ⟨_, rfl⟩
      obtain ⟨tx, htx⟩ : ∃ x, es[k].text = x := ⟨_, rfl⟩
      rw [hp] at c0 hpl0 hpk hpin2
      rw [hkd] at c1
      rw [hmd] at c2
      rw [htx] at c3
      replace hp := Lib.hid hp
      clear hkd hmd htx
      go_wp2_with fail
      obtain ⟨Wb, hWb⟩ : ∃ X, wr.alloc (.cells #[.string (mkB p), .int .i64 kd, .int .i64 md, .string (mkB tx)] 31) = X := ⟨_, rfl⟩
      have hb1 : Box4 Wb wr.heap.size 31 (.string (mkB p)) (.int .i64 kd) (.int .i64 md) (.string (mkB tx)) := by rw [← hWb]; exact Box4.new _ _ _ _ _ _
      have hB1 : Below w.heap.size w Wb := by rw [← hWb]; exact hBr.alloc hBr.size _
      have hr1 := Lib.hid (show RowE Wb g8 c8 (mvL es f t k).length (mvL es f t k) by rw [← hWb]; exact hrr.out.below ((Below.refl _ _).alloc (Nat.le_refl _) _) hgl)
      rw [hWb]
      clear hWb hBr hrr c0 c1 c2 c3
      have hgl1 := hr1.out.lt
      with_reducible refine (PathIn_any f p (by omega) (by omega) _).mono ?_
      rintro r wa ⟨rfl, hBa⟩
      rw [hpin2.out]
      have hCa := hB1.trans (hBa.mono hB1.size)
      have hba := hb1.below hBa hb1.lt
      have hra := Lib.hid (hr1.out.below hBa hgl1)
      have hgla := hra.out.lt
      clear hb1 hr1
      have d0 := hba.cell0
      rcases boolOf (below f p) with hbp | hbp
      · rw [hbp.out]
        have hsame := Lib.hid (mvL_same (f := f) (t := t) hlt (by rw [hp.out]; exact hbp.out))
        have hmok : pathOk (moveE f t es[k]).path = true := by
          unfold moveE
          rw [hp.out, hbp.out]
          simp only [Bool.false_eq_true, if_false]
          rw [hp.out]; exact hpk.out
        replace hmok := Lib.hid hmok
        clear d0
        go_wp2
        go_round
        case rel => exact ⟨k + 1, by omega, by go_num, Lib.hid (by rw [hsame.out]; exact hra.out), Lib.hid (fun i hi h => by
          rcases Nat.lt_or_ge i k with h1 | h1
          · exact hall.out i hi h1
          · obtain rfl : i = k := by omega
            exact hmok.out), hCa⟩
        case measure => simp [intOf]; omega
      rw [hbp.out]
      have hpm := Lib.hid (pathMove_is hok.out htf.out hpk.out hpt.out hbp.out)
      go_wp2_with fail
      with_reducible refine (PathMove_any p f t (by omega) (by omega) (by omega) _).mono ?_
      rintro r wb ⟨rfl, hBb⟩
      rw [hpm.out]
      have hCb := hCa.trans (hBb.mono hCa.size)
      have hrb := Lib.hid (hra.out.below hBb hgla)
      have hglb := hrb.out.lt
      clear d0 hba hra
      obtain ⟨r0, x0⟩ := hrb.out.room (j := k * 4) (by omega)
      have f0 := hrb.out.frozen (k * 4)
      rcases boolOf (pathOk (t ++ p.drop f.length)) with hq | hq
      · rw [hq.out]
        have hno := Lib.hid (movesOk_no (f := f) (t := t) hlt (by unfold moveE; rw [hp.out, hbp.out]; exact hq.out))
        simp only [Bool.false_eq_true, if_false]
        have hCs : Below w.heap.size w (wb.setCell ⟨g8, k * 4, none⟩ (.string (mkB []))) := hCb.setCell (p := ⟨g8, k * 4, none⟩) hlo _
        have hEs := Lib.hid (hEh.out.below hCs hg)
        go_wp2_with fail
        with_reducible refine (Clone_own es g c _ hEs.out hlen).mono ?_
        rintro r w9 ⟨g9, c9, rfl, hR9, hB9⟩
        have hC9 := hCs.trans (hB9.mono hCs.size)
        have hss := hCs.size
        replace hR9 := Lib.hid hR9
        clear x0 f0
        go_wp2
        refine bodyPost_ret (v := .tuple #[.slice (some ⟨g9, 0, none⟩) es.length c9, .bool false]) (by simp [results, Tryd.results31, go_sem]) rfl ?_
        rw [treeMove_long hok.out hno.out]
        exact ⟨some ⟨g9, 0, none⟩, c9, rfl, (hR9.out.lower hss).own, hC9, .inr ⟨g9, rfl, hR9.out.parts.1.ents, hR9.out.parts.2.2.1⟩⟩
      · rw [hq.out]
        simp only [if_true]
        obtain ⟨q, hqq⟩ : ∃ x, t ++ p.drop f.length = x := ⟨_, rfl⟩
        rw [hqq] at hq ⊢
        have hqne : (q == []) = false := by
          have := pathOk_len hq.out
          cases q with
          | nil => simp at this
          | cons => rfl
        have hnext : mvL es f t (k + 1) = (mvL es f t k).set k { (mvL es f t k)[k]'(by rw [hml.out]; exact hlt) with path := q } := by
          rw [mvL_next hlt, mvL_at hlt]
          unfold moveE
          rw [hp.out, hbp.out, hqq]; rfl
        have hset := hrb.out.setPath q (k := k) (by rw [hml.out]; exact hlt) (by rw [hml.out]; exact hnc8)
        rw [← hnext] at hset
        have hmok : pathOk (moveE f t es[k]).path = true := by
          unfold moveE
          rw [hp.out, hbp.out, hqq]; exact hq.out
        replace hmok := Lib.hid hmok
        replace hset := Lib.hid hset
        replace hnext := Lib.hid hnext
        replace hqq := Lib.hid hqq
        go_wp2
        go_round
        case rel => exact ⟨k + 1, by omega, by go_num, hset, Lib.hid (fun i hi h => by
          rcases Nat.lt_or_ge i k with h1 | h1
          · exact hall.out i hi h1
          · obtain rfl : i = k := by omega
            exact hmok.out), hCb.setCell (p := ⟨g8, k * 4, none⟩) hlo _⟩
        case measure => simp [intOf]; omega
    · obtain rfl : k = es.length := by omega
      have hra := hrr.out
      rw [mvL_all] at hra
      have hal : (es.map (moveE f t)).length = es.length := by simp
      have hmy := Lib.hid (movesOk_yes (fun i hi h => hall.out i hi h))
      have hap := Lib.hid (moved_apart hok.out hmb.out)
      have hsc := SortFunc_any (es.map (moveE f t)) g8 c8 c8 wr hra (by omega) (by omega)
      rw [hal] at hsc
      replace hsc := Lib.hid hsc
      clear hra hrr
      go_wp2_with fail
      with_reducible refine hsc.out.mono ?_
      rintro r w9 ⟨rfl, fs, hperm, hord, hrf, hgr⟩
      have hfs := sortE_is hap.out hperm hord
      subst hfs
      have hC9 := hBr.grown hgr hBr.size (fun q hq => by cases hq; exact hlo)
      have hsl := sortE_length (es.map (moveE f t))
      rw [hal] at hsl
      replace hrf := Lib.hid hrf
      replace hsl := Lib.hid hsl
      clear hgr hperm hord
      go_wp2
      refine bodyPost_ret (v := .tuple #[.slice (some ⟨g8, 0, none⟩) es.length c8, .bool true]) (by simp [results, Tryd.results31, go_sem]) rfl ?_
      rw [treeMove_yes hok.out hmb.out hmy.out]
      exact ⟨some ⟨g8, 0, none⟩, c8, by rw [hsl.out], .inr ⟨g8, c8, rfl, hlo, by rw [hsl.out]; exact hnc8, hrf.out⟩, hC9, .inr ⟨g8, rfl, hrf.out.ents, by rw [hsl.out]; exact hnc8⟩⟩
theorem TreeMove_any (es : List En) (f t : List UInt8) (g c : Nat) (w : World) (hE : Ents w g es) (hsm : Small es) (hcap : es.length ≤ c) (hf : f.length ≤ 1048576) (ht : t.length ≤ 1048576) :
    Calls Tryd.prog 31 #[.slice (some ⟨g, 0, none⟩) es.length c, .string (mkB f), .string (mkB t)] w (ResE (treeMove es f t) w) :=
  (TreeMove_both es f t g c w hE hsm hcap hf ht).mono fun _ _ ⟨A, c', h1, h2, h3, _⟩ => ⟨A, c', h1, h2, h3⟩
end Go.Proofs.YtjihpbioofikcaaDoor
