/-
  DrawT, DrawU: merged.
-/
import Derived.Test.YtiknkjhdieepbaaDoorGG
import Derived.Test.YtiknkjhdieepbaaDoorPutS
import Derived.Test.YtiknkjhdieepbaaDoorMoveP
import Derived.Test.YtiknkjhdieepbaaDoorGC
import Derived.Test.YtiknkjhdieepbaaDoorGE
/-
  The walk of l11Tree.
-/
namespace Go.Proofs.YtiknkjhdieepbaaDoor
open Go.RowKit
set_option linter.unusedVariables false
set_option linter.unusedSimpArgs false
attribute [local go_sem] mkB_size mkB_extract mkB_get mkB_append mkB_append_raw raw_append_mkB mkB_toList

def Dr16 (es : List En) : Prop := es.length ≤ 16 ∧ ∀ e ∈ es, DrE e
def DrT (es : List En) : Prop := es.length ≤ 17 ∧ ∀ e ∈ es, DrE e
theorem dr_small {es : List En} (h : ∀ e ∈ es, DrE e) (hl : es.length ≤ 1000) : Small es := ⟨by omega, fun i hi => by
  have := h _ (List.getElem_mem hi)
  unfold DrE Plain2 at this
  omega⟩
theorem putL_dr {es : List En} {e : En} (h : Dr16 es) (he : DrE e) : Dr16 (putL es e).1 := by
  unfold putL
  split
  · split
    · split
      · refine ⟨by rw [List.length_set]; exact h.1, fun x hx => ?_⟩
        rcases List.mem_or_eq_of_mem_set hx with h1 | h1
        · exact h.2 x h1
        · rw [h1]; exact he
      · exact h
    · split
      · exact h
      · rename_i hn
        refine ⟨?_, fun x hx => ?_⟩
        · show (insE es (atGo es e.path) e).length ≤ 16
          rw [insE_length e (atGo_le es e.path)]; omega
        · rcases List.mem_cons.1 ((insE_perm es _ e).subset hx) with h1 | h1
          · rw [h1]; exact he
          · exact h.2 x h1
  · exact h
theorem gr_then {w a b : World} {rb n : Nat} (h : w.grownBy a (some rb)) (hB : Below n a b) (hn : w.heap.size ≤ n) : w.grownBy b (some rb) :=
  ⟨hB.os.trans h.os, hB.tape.trans h.tape, hB.output.trans h.output, Nat.le_trans h.size hB.size, fun k hk hne => (hB.block k (by omega)).trans (h.block k hk hne)⟩
theorem RdB.kept {w w' : World} {rb b : Nat} {row : Option Nat} (h : RdB w rb b) (hg : w.grownBy w' row) (hr : ∀ r, row = some r → rb < r) : RdB w' rb b := by
  obtain ⟨p, hp, h⟩ := h
  exact ⟨p, hp, h.kept hg hr⟩
/-- a tree was drawn -/
def TrB (P : List En → Prop) (rb b : Nat) (w : World) (e : Ending) (w' : World) : Prop :=
  ∃ es g c, P es ∧ e = .returned (.slice (some ⟨g, 0, none⟩) es.length c) ∧ OwnR w' w.heap.size g c es ∧ RdB w' rb b ∧ w.grownBy w' (some rb)
def rootsL : List (List UInt8) := [[97], [108, 105, 98], [98, 105, 110], [100, 111, 99], [97, 47, 98]]
theorem roots_plain : ∀ s ∈ rootsL, Plain2 s := by decide
theorem dd_len16 (k : Nat) (h : k < 16) : (dd k).length ≤ 2 := dd_short k (by omega)
theorem dd_plain (k : Nat) (h : k < 16) : Plain2 (102 :: dd k) := by
  by_cases h1 : k < 10
  · rw [dd_one k h1]
    rcases (by omega : k = 0 ∨ k = 1 ∨ k = 2 ∨ k = 3 ∨ k = 4 ∨ k = 5 ∨ k = 6 ∨ k = 7 ∨ k = 8 ∨ k = 9) with rfl | rfl | rfl | rfl | rfl | rfl | rfl | rfl | rfl | rfl <;> decide
  · rw [dd_two k (by omega), dd_one (k / 10) (by omega), dd_one (k % 10) (by omega)]
    rcases (by omega : k = 10 ∨ k = 11 ∨ k = 12 ∨ k = 13 ∨ k = 14 ∨ k = 15) with rfl | rfl | rfl | rfl | rfl | rfl <;> decide
/-- a put entry, at a row of one's own, behind a reader -/
theorem put_b (acc : List En) (x : En) (rb b lo g c : Nat) (w0 w : World) (hR : RdB w rb b) (hrb : rb < w0.heap.size) (hO : OwnR w w0.heap.size g c acc) (hd : Dr16 acc) (hx : DrE x) (hg : w0.grownBy w (some rb)) :
    Calls Tryd.prog 27 #[.slice (some ⟨g, 0, none⟩) acc.length c, enV x] w fun e w' =>
      ∃ g' c' ok, e = .returned (.tuple #[.slice (some ⟨g', 0, none⟩) (putL acc x).1.length c', .bool ok]) ∧ OwnR w' w0.heap.size g' c' (putL acc x).1 ∧ RdB w' rb b ∧ w0.grownBy w' (some rb) ∧ Below w.heap.size w w' := by
  have hsz := hg.size
  unfold DrE Plain2 at hx
  refine (l2Put_any acc x g c w hO.parts.1.ents (dr_small hd.2 (by have := hd.1; omega)) hO.parts.2.2.1 (by omega) (by omega)).mono ?_
  rintro e w' ⟨g', c', rfl, hO', hB⟩
  exact ⟨g', c', _, rfl, hO'.lower hsz, hR.below hB (Nat.le_refl _), gr_then hg hB hsz, hB⟩
theorem block_gr {w w' : World} {rb g : Nat} {o : Obj} (h : w.heap[g]? = some o) (hg : w.grownBy w' (some rb)) (hne : rb ≠ g) : w'.heap[g]? = some o :=
  (hg.block g (Array.getElem?_eq_some_iff.1 h).1 (fun e => hne (by injection e; omega))).trans h
theorem block_below {w w' : World} {n g : Nat} {o : Obj} (h : w.heap[g]? = some o) (hB : Below n w w') (hn : w.heap.size ≤ n) : w'.heap[g]? = some o :=
  (hB.block g (by have := (Array.getElem?_eq_some_iff.1 h).1; omega)).trans h

set_option maxRecDepth 1000000 in
set_option maxHeartbeats 16000000 in
theorem l11Tree_any (rb b : Nat) (w : World) (h : RdB w rb b) (hb : b ≤ 700000) :
    Calls Tryd.prog 14 #[.pointer (some ⟨rb, 0, none⟩)] w (TrB Dr16 rb (b + 40) w) := by
  have hlt := h.lt
  have hO0 : OwnR (w.alloc (.cells #[] 30)) w.heap.size w.heap.size 0 [] := by unfold OwnR; exact World.ownsRow_made (base := w.heap.size) (e := 30) (size := 4) w #[] 0 (Nat.le_refl _) (by simp [maxLen]) rfl
  have hB0 : Below w.heap.size w (w.alloc (.cells #[] 30)) := (Below.refl _ _).alloc (Nat.le_refl _) _
  have hB1 : Below (w.heap.size + 1) (w.alloc (.cells #[] 30)) ((w.alloc (.cells #[] 30)).alloc (.cells (rootsL.map strW).toArray 9)) := (Below.refl _ _).alloc (by simp) _
  have hO1 := Lib.hid (hO0.below hB1 (by omega))
  have hR1 := Lib.hid ((h.alloc (.cells #[] 30)).alloc (.cells (rootsL.map strW).toArray 9))
  have hg1 := Lib.hid (gr_then (gr_of_below (rb := rb) hB0 (Nat.le_refl _)) hB1 (by omega))
  have hn1 := World.alloc_heap_new (w.alloc (.cells #[] 30)) (.cells (rootsL.map strW).toArray 9)
  rw [show (w.alloc (.cells #[] 30)).heap.size = w.heap.size + 1 by simp] at hn1
  replace hn1 := Lib.hid hn1
  clear hO0 hB0 hB1 h
  go_enter Tryd.func14, Tryd.ntmps14
  go_wp2
  go_loopw [3, 5] (fun out ii wr => ∃ (k g1 c1 : Nat) (acc : List En), k ≤ 5 ∧ ii = .int .i64 k ∧ out = .slice (some ⟨g1, 0, none⟩) acc.length c1 ∧ Hid (OwnR wr w.heap.size g1 c1 acc) ∧ Hid (Dr16 acc) ∧ Hid (wr.heap[w.heap.size + 1]? = some (.cells (rootsL.map strW).toArray 9 (0, 0))) ∧ Hid (RdB wr rb (b + k)) ∧ Hid (w.grownBy wr (some rb))) (fun _ ii _ => 5 - (intOf ii).toNat)
  case atStart => exact ⟨0, w.heap.size, 0, [], by omega, rfl, rfl, hO1, Lib.hid ⟨by simp, by simp⟩, hn1, hR1, hg1⟩
  case round =>
    clear hO1 hR1 hg1 hn1
    obtain ⟨k, g1, c1, acc, hk, rfl, rfl, hO, hd, hn, hR, hg⟩ := hrel
    by_cases hlt5 : k < 5
    · have hkI : (k : Int) < 5 := by omega
      go_wp2_with fail
      with_reducible refine (pick_b rb (b + k) 2 wr hR.out (by omega) (by omega) (by omega)).mono ?_
      rintro e w2 ⟨v, hv, rfl, hR2, hg2⟩
      have hO2 := own_gr hO.out hg2 hlt
      have hn2 := block_gr hn.out hg2 (by omega)
      replace hg2 := grown_trans hg.out hg2
      clear hO hR hg hn
      replace hR2 := Lib.hid hR2
      replace hO2 := Lib.hid hO2
      replace hg2 := Lib.hid hg2
      by_cases v0 : v = 0
      · subst v0
        have hrl : k < rootsL.length := by simp [rootsL]; omega
        obtain ⟨r, hr⟩ : ∃ r, rootsL[k] = r := ⟨_, rfl⟩
        have hrp : Plain2 r := by rw [← hr]; exact roots_plain _ (List.getElem_mem hrl)
        have hc : w2.cell? ⟨w.heap.size + 1, k, none⟩ = some (.string (mkB r)) := by
          rw [cell_of_row _ _ _ _ _ _ hn2]
          simp [strW, hrl, hr]
        replace hn2 := Lib.hid hn2
        clear hr
        go_wp2_with fail
        refine (put_b acc ⟨r, 1, 7, []⟩ rb _ 0 g1 c1 w w2 hR2.out hlt hO2.out hd.out ⟨hrp, plain_nil⟩ hg2.out).mono ?_
        rintro e w3 ⟨g3, c3, ok, rfl, hO3, hR3, hg3, hB3⟩
        have hd3 := Lib.hid (putL_dr (e := ⟨r, 1, 7, []⟩) hd.out ⟨hrp, plain_nil⟩)
        have hn3 := Lib.hid (block_below hn2.out hB3 (Nat.le_refl _))
        replace hO3 := Lib.hid hO3
        obtain ⟨ac2, hac⟩ : ∃ x, (putL acc ⟨r, 1, 7, []⟩).1 = x := ⟨_, rfl⟩
        rw [hac] at hO3 hd3 ⊢
        clear hac hc hB3
        go_wp2
        go_round
        case rel => exact ⟨k + 1, g3, c3, ac2, by omega, by go_num, rfl, hO3, hd3, hn3, Lib.hid (hR3.le (by omega)), Lib.hid hg3⟩
        case measure => simp [intOf]; omega
      · have hv1 : ((v : Int) == 0) = false := by simp; omega
        replace v0 := Lib.hid v0
        replace hn2 := Lib.hid hn2
        go_wp2
        go_round
        case rel => exact ⟨k + 1, g1, c1, acc, by omega, by go_num, rfl, hO2, hd, hn2, Lib.hid (hR2.out.le (by omega)), hg2⟩
        case measure => simp [intOf]; omega
    · obtain rfl : k = 5 := by omega
      clear hn
      go_wp2_with fail
      with_reducible refine (pick_b rb (b + 5) 7 wr hR.out (by omega) (by omega) (by omega)).mono ?_
      rintro e w2 ⟨v, hv, rfl, hR2, hg2⟩
      have hO2 := Lib.hid (own_gr hO.out hg2 hlt)
      replace hg2 := Lib.hid (grown_trans hg.out hg2)
      replace hR2 := Lib.hid hR2
      clear hO hR hg
      go_wp2
      go_loopw [3, 6] (fun out ii wr => ∃ (k g1 c1 : Nat) (acc : List En), k ≤ 6 ∧ ii = .int .i64 k ∧ out = .slice (some ⟨g1, 0, none⟩) acc.length c1 ∧ Hid (OwnR wr w.heap.size g1 c1 acc) ∧ Hid (Dr16 acc) ∧ Hid (RdB wr rb (b + 6 + 4 * (6 - k))) ∧ Hid (w.grownBy wr (some rb))) (fun _ ii _ => (intOf ii).toNat)
      case atStart => exact ⟨v, g1, c1, acc, by omega, rfl, rfl, hO2, hd, Lib.hid (hR2.out.le (by omega)), hg2⟩
      case round =>
        clear hO2 hR2 hg2 hd
        obtain ⟨k, g1, c1, acc, hk, rfl, rfl, hO, hd, hR, hg⟩ := hrel
        by_cases hk0 : 0 < k
        · have hkI : (0 : Int) < (k : Int) := by omega
          go_wp2_with fail
          with_reducible refine (l11Entry_any rb (b + 6 + 4 * (6 - k)) wr hR.out (by omega)).mono ?_
          rintro e w3 ⟨x, hx, rfl, hR3, hg3⟩
          have hO3 := own_gr hO.out hg3 hlt
          replace hg3 := grown_trans hg.out hg3
          clear hO hR hg
          go_wp2_with fail
          refine (put_b acc x rb _ 0 g1 c1 w w3 hR3 hlt hO3 hd.out hx hg3).mono ?_
          rintro e w4 ⟨g4, c4, ok, rfl, hO4, hR4, hg4, hB4⟩
          have hd4 := Lib.hid (putL_dr hd.out hx)
          replace hO4 := Lib.hid hO4
          obtain ⟨ac2, hac⟩ : ∃ y, (putL acc x).1 = y := ⟨_, rfl⟩
          rw [hac] at hO4 hd4 ⊢
          clear hac hB4 hO3 hR3 hg3
          go_wp2
          go_round
          case rel => exact ⟨k - 1, g4, c4, ac2, by omega, by go_num, rfl, hO4, hd4, Lib.hid (hR4.le (by omega)), Lib.hid hg4⟩
          case measure => simp [intOf]; omega
        · obtain rfl : k = 0 := by omega
          go_wp2_with fail
          with_reducible refine (pick_b rb (b + 6 + 4 * (6 - 0)) 30 wr hR.out (by omega) (by omega) (by omega)).mono ?_
          rintro e w2 ⟨v, hv, rfl, hR2, hg2⟩
          have hO2 := Lib.hid (own_gr hO.out hg2 hlt)
          replace hg2 := Lib.hid (grown_trans hg.out hg2)
          replace hR2 := Lib.hid hR2
          clear hO hR hg
          by_cases v0 : v = 0
          case neg =>
            have hv1 : ((v : Int) == 0) = false := by simp; omega
            replace v0 := Lib.hid v0
            go_wp2
            go_ret
            exact ⟨acc, g1, c1, hd.out, rfl, hO2.out, hR2.out.le (by omega), hg2.out⟩
          subst v0
          go_wp2
          go_loopw [3, 7] (fun out ii wr => ∃ (k g1 c1 : Nat) (acc : List En), k ≤ 16 ∧ ii = .int .i64 k ∧ out = .slice (some ⟨g1, 0, none⟩) acc.length c1 ∧ Hid (OwnR wr w.heap.size g1 c1 acc) ∧ Hid (Dr16 acc) ∧ Hid (RdB wr rb (b + 40)) ∧ Hid (w.grownBy wr (some rb))) (fun _ ii _ => 16 - (intOf ii).toNat)
          case atStart => exact ⟨0, g1, c1, acc, by omega, rfl, rfl, hO2, hd, Lib.hid (hR2.out.le (by omega)), hg2⟩
          case round =>
            clear hO2 hR2 hg2 hd
            obtain ⟨k, g1, c1, acc, hk, rfl, rfl, hO, hd, hR, hg⟩ := hrel
            by_cases hk0 : k < 16
            · have hkI : (k : Int) < 16 := by omega
              go_wp2_with fail
              with_reducible refine (l1Dec_small k (by omega) wr).mono ?_
              rintro e w3 ⟨rfl, hB3⟩
              have hO3 := hO.out.below hB3 hO.out.lt
              have hR3 := hR.out.below hB3 (Nat.le_refl _)
              have hg3 := gr_then hg.out hB3 hg.out.size
              clear hO hR hg
              have hddl := dd_len16 k hk0
              have hdp := dd_plain k hk0
              obtain ⟨q, hq⟩ : ∃ q, dd k = q := ⟨_, rfl⟩
              rw [hq] at hddl hdp ⊢
              clear hq
              have hsz : (mkB [102]).size + (mkB q).size ≤ 140737488355328 := by simp [mkB_size]; omega
              replace hO3 := Lib.hid hO3
              replace hR3 := Lib.hid hR3
              replace hg3 := Lib.hid hg3
              go_wp2_with fail
              refine (put_b acc ⟨102 :: q, 2, 0, []⟩ rb _ 0 g1 c1 w w3 hR3.out hlt hO3.out hd.out ⟨hdp, plain_nil⟩ hg3.out).mono ?_
              rintro e w4 ⟨g4, c4, ok, rfl, hO4, hR4, hg4, hB4⟩
              have hd4 := Lib.hid (putL_dr (e := ⟨102 :: q, 2, 0, []⟩) hd.out ⟨hdp, plain_nil⟩)
              replace hO4 := Lib.hid hO4
              obtain ⟨ac2, hac⟩ : ∃ y, (putL acc ⟨102 :: q, 2, 0, []⟩).1 = y := ⟨_, rfl⟩
              rw [hac] at hO4 hd4 ⊢
              clear hac hB4 hO3 hR3 hg3
              go_wp2
              go_round
              case rel => exact ⟨k + 1, g4, c4, ac2, by omega, by go_num, rfl, hO4, hd4, Lib.hid hR4, Lib.hid hg4⟩
              case measure => simp [intOf]; omega
            · obtain rfl : k = 16 := by omega
              go_wp2
              go_ret
              exact ⟨acc, g1, c1, hd.out, rfl, hO.out, hR.out, hg.out⟩
end Go.Proofs.YtiknkjhdieepbaaDoor

/-
  The walks of l11AnyTree and l11At, and of the functions that draw trees.
-/
namespace Go.Proofs.YtiknkjhdieepbaaDoor
open Go.RowKit
set_option linter.unusedVariables false
set_option linter.unusedSimpArgs false
attribute [local go_sem] mkB_size mkB_extract mkB_get mkB_append mkB_append_raw raw_append_mkB mkB_toList

theorem RdB.of {w : World} {rb p : Nat} (h : Rd w rb p) : RdB w rb p := ⟨p, Nat.le_refl _, h⟩
theorem drT_set {es : List En} {x : En} {k : Nat} (h : DrT es) (hx : DrE x) : DrT (es.set k x) := by
  refine ⟨by rw [List.length_set]; exact h.1, fun y hy => ?_⟩
  rcases List.mem_or_eq_of_mem_set hy with h1 | h1
  · exact h.2 y h1
  · rw [h1]; exact hx
theorem set_gr {w W : World} {rb B : Nat} (h : w.grownBy W (some rb)) (hB : w.heap.size ≤ B) (i j k l : Nat) (a b c d : Value) : w.grownBy ((((W.setCell ⟨B, i, none⟩ a).setCell ⟨B, j, none⟩ b).setCell ⟨B, k, none⟩ c).setCell ⟨B, l, none⟩ d) (some rb) :=
  set1_gr (set1_gr (set1_gr (set1_gr h hB _ _) hB _ _) hB _ _) hB _ _
set_option maxRecDepth 1000000 in
set_option maxHeartbeats 16000000 in
theorem l11AnyTree_any (rb b : Nat) (w : World) (h : RdB w rb b) (hb : b ≤ 600000) :
    Calls Tryd.prog 11 #[.pointer (some ⟨rb, 0, none⟩)] w (TrB DrT rb (b + 50) w) := by
  have hlt := h.lt
  obtain ⟨i0, hi, hz0, hz1, hz2⟩ := info_parts infoE
  replace hi := Lib.hid hi
  replace hz0 := Lib.hid hz0
  replace hz1 := Lib.hid hz1
  replace hz2 := Lib.hid hz2
  go_enter Tryd.func11, Tryd.ntmps11
  go_wp2_with fail
  with_reducible refine (l11Tree_any rb b w h (by omega)).mono ?_
  rintro e w1 ⟨es, g1, c1, hd, rfl, hO1, hR1, hg1⟩
  have hl16 := hd.1
  have hT : DrT es := ⟨by omega, hd.2⟩
  replace hd := Lib.hid hd
  go_wp2_with fail
  with_reducible refine (l2Copy_own es g1 c1 w1 hO1.parts.1.ents (by omega)).mono ?_
  rintro e w2 ⟨g2, c2, rfl, hO2, hB2⟩
  have hsz := hg1.size
  replace hO2 := hO2.lower hsz
  have hR2 := hR1.below hB2 (Nat.le_refl _)
  have hg2 := gr_then hg1 hB2 hsz
  clear hO1 hR1 hg1 hB2 hsz
  replace hO2 := Lib.hid hO2
  go_wp2_with fail
  with_reducible refine (pick_b rb (b + 40) 14 w2 hR2 (by omega) (by omega) (by omega)).mono ?_
  rintro e w3 ⟨v, hv, rfl, hR3, hg3⟩
  have hO3 := Lib.hid (own_gr hO2.out hg3 hlt)
  replace hg3 := grown_trans hg2 hg3
  clear hO2 hR2 hg2
  by_cases v0 : v = 0
  · subst v0
    go_wp2_with fail
    with_reducible refine (l11AnyEntry_any rb (b + 40 + 1) w3 hR3 (by omega)).mono ?_
    rintro e w4 ⟨x, hx, rfl, hR4, hg4⟩
    have hO4 := own_gr hO3.out hg4 hlt
    replace hg4 := grown_trans hg3 hg4
    clear hO3 hR3 hg3
    have h63 : es.length + 1 ≤ maxLen := by simp only [maxLen]; omega
    have hby : (es.length + 1) * 48 ≤ 140737488355328 := by omega
    have hbs := hg4.size
    have hone := Lib.hid (cellsE_one x)
    have hg2l := hO4.parts.2.1
    unfold OwnR at hO4
    replace hO4 := Lib.hid hO4
    obtain ⟨p, kd, md, t⟩ := x
    replace hg4 := Lib.hid hg4
    replace hR4 := Lib.hid hR4
    go_wp2_with (at_builtin; go_loud (refine wpList_push rfl _ _ 23 rfl w.heap.size 30 i0 _ 4 48 Tryd.underlying23 hi.out hz0.out hz1.out hz2.out rfl (by decide) w4 _ es.length (flatE es) hO4.out rfl (cellsE ⟨p, kd, md, t⟩) rfl rfl hone.out h63 hby hbs ?_); intro g5 c5 w5 hown5 hgr5 hB5 hat5)
    have hO5 : OwnR w5 w.heap.size g5 c5 (es ++ [⟨p, kd, md, t⟩]) := by unfold OwnR; rw [flatE_snoc, List.length_append]; exact hown5
    have hR5 : RdB w5 rb (b + 40 + 1 + 7) := hR4.out.kept hgr5 (fun r e => by cases e; show rb < g2; omega)
    have hg5 : w.grownBy w5 (some rb) := gr_then hg4.out hB5 (Nat.le_refl _)
    have hT5 : DrT (es ++ [⟨p, kd, md, t⟩]) := ⟨by simp; omega, fun y hy => by
      rcases List.mem_append.1 hy with h1 | h1
      · exact hd.out.2 y h1
      · simp only [List.mem_singleton] at h1; rw [h1]; exact hx⟩
    have hl5 : (es ++ [(⟨p, kd, md, t⟩ : En)]).length = es.length + 1 := by simp
    replace hO5 := Lib.hid hO5
    replace hR5 := Lib.hid hR5
    replace hg5 := Lib.hid hg5
    replace hT5 := Lib.hid hT5
    replace hl5 := Lib.hid hl5
    clear hown5 hgr5 hB5 hat5
    go_wp2
    refine bodyPost_ret (v := .slice (some ⟨g5, 0, none⟩) (es.length + 1) c5) (by simp [results, Tryd.results11, go_sem]) rfl ?_
    exact ⟨es ++ [⟨p, kd, md, t⟩], g5, c5, hT5.out, by rw [hl5.out], hO5.out, hR5.out.le (by omega), hg5.out⟩
  by_cases v1 : v = 1
  · subst v1
    replace v0 := Lib.hid v0
    by_cases hpos : 0 < es.length
    · have hpI : (0 : Int) < (es.length : Int) := by omega
      go_wp2_with fail
      with_reducible refine (pick_b rb (b + 40 + 1) es.length w3 hR3 (by omega) (by omega) (by omega)).mono ?_
      rintro e w4 ⟨k, hk, rfl, hR4, hg4⟩
      have hO4 := Lib.hid (own_gr hO3.out hg4 hlt)
      replace hg4 := grown_trans hg3 hg4
      clear hO3 hR3 hg3
      go_wp2_with fail
      with_reducible refine (l11AnyEntry_any rb (b + 40 + 1 + 1) w4 hR4 (by omega)).mono ?_
      rintro e w5 ⟨x, hx, rfl, hR5, hg5⟩
      have hO5 := own_gr hO4.out hg5 hlt
      replace hg5 := grown_trans hg4 hg5
      clear hO4 hR4 hg4
      obtain ⟨p, kd, md, t⟩ := x
      obtain ⟨hrow, hlo, hnc, hmx⟩ := hO5.parts
      have hkl : k < es.length := by omega
      obtain ⟨r0, x0⟩ := hrow.room (j := k * 4) (by omega)
      obtain ⟨r1, x1⟩ := hrow.room (j := k * 4 + 1) (by omega)
      obtain ⟨r2, x2⟩ := hrow.room (j := k * 4 + 2) (by omega)
      obtain ⟨r3, x3⟩ := hrow.room (j := k * 4 + 3) (by omega)
      have f0 := hrow.frozen (k * 4)
      have f1 := hrow.frozen (k * 4 + 1)
      have f2 := hrow.frozen (k * 4 + 2)
      have f3 := hrow.frozen (k * 4 + 3)
      have hset := Lib.hid (hrow.setAt ⟨p, kd, md, t⟩ hkl hnc)
      have hR6 := Lib.hid (((((hR5.set (g := g2) (j := k * 4) (v := .string (mkB p)) (by omega)).set (g := g2) (j := k * 4 + 1) (v := .int .i64 kd) (by omega)).set (g := g2) (j := k * 4 + 2) (v := .int .i64 md) (by omega)).set (g := g2) (j := k * 4 + 3) (v := .string (mkB t)) (by omega)))
      have hg6 := Lib.hid (set_gr hg5 hlo (k * 4) (k * 4 + 1) (k * 4 + 2) (k * 4 + 3) (.string (mkB p)) (.int .i64 kd) (.int .i64 md) (.string (mkB t)))
      clear hR5 hg5 hrow hO5
      go_wp2
      refine bodyPost_ret (v := .slice (some ⟨g2, 0, none⟩) es.length c2) (by simp [results, Tryd.results11, go_sem]) rfl ?_
      exact ⟨es.set k ⟨p, kd, md, t⟩, g2, c2, drT_set hT hx, by rw [List.length_set], OwnR.of hset.out hlo (by rw [List.length_set]; exact hnc) hmx, hR6.out.le (by omega), hg6.out⟩
    · have hpI : ¬ (0 : Int) < (es.length : Int) := by omega
      go_wp2
      go_ret
      exact ⟨es, g2, c2, hT, rfl, hO3.out, hR3.le (by omega), hg3⟩
  have h0 : ((v : Int) == 0) = false := by simp; omega
  have h1 : ((v : Int) == 1) = false := by simp; omega
  replace v0 := Lib.hid v0
  replace v1 := Lib.hid v1
  go_wp2
  go_ret
  exact ⟨es, g2, c2, hT, rfl, hO3.out, hR3.le (by omega), hg3⟩

theorem below_gr {w w1 w2 : World} {rb : Nat} (hB : Below w.heap.size w w1) (hr : w.heap.size ≤ rb) (hg : w1.grownBy w2 (some rb)) : Below w.heap.size w w2 :=
  hB.grown hg hB.size (fun k e => by cases e; exact hr)
/-- a tree was drawn -/
def DTree (w : World) (e : Ending) (w' : World) : Prop := ∃ es g c, DrT es ∧ e = .returned (.slice (some ⟨g, 0, none⟩) es.length c) ∧ OwnR w' w.heap.size g c es ∧ Below w.heap.size w w'
def DTreeS (w : World) (e : Ending) (w' : World) : Prop := ∃ es g c s, DrT es ∧ Plain2 s ∧ e = .returned (.tuple #[.slice (some ⟨g, 0, none⟩) es.length c, .string (mkB s)]) ∧ OwnR w' w.heap.size g c es ∧ Below w.heap.size w w'
def DTreeSS (w : World) (e : Ending) (w' : World) : Prop := ∃ es g c s t, DrT es ∧ Plain2 s ∧ Plain2 t ∧ e = .returned (.tuple #[.slice (some ⟨g, 0, none⟩) es.length c, .string (mkB s), .string (mkB t)]) ∧ OwnR w' w.heap.size g c es ∧ Below w.heap.size w w'
def DTreeE (w : World) (e : Ending) (w' : World) : Prop := ∃ es g c x, DrT es ∧ DrE x ∧ e = .returned (.tuple #[.slice (some ⟨g, 0, none⟩) es.length c, enV x]) ∧ OwnR w' w.heap.size g c es ∧ Below w.heap.size w w'

end Go.Proofs.YtiknkjhdieepbaaDoor

