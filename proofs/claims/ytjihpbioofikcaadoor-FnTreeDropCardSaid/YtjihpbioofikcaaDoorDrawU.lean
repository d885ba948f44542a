/-
  The walks of l11AnyTree and l11At, and of the functions that draw trees.
-/
import Derived.Test.YtjihpbioofikcaaDoorDrawT
import Derived.Test.YtjihpbioofikcaaDoorDropS
namespace Go.Proofs.YtjihpbioofikcaaDoor
open Go.RowKit
set_option linter.unusedVariables false
set_option linter.unusedSimpArgs false
attribute [local go_sem] mkB_size mkB_extract mkB_get mkB_append mkB_append_raw raw_append_mkB mkB_toList

theorem RdB.of {w : World} {rb p : Nat} (h : Rd w rb p) : RdB w rb p := ⟨p, Nat.le_refl _, h⟩
theorem drT_set {es : List En} {x : En} {k : Nat} (h : DrT es) (hx : DrE x) : DrT (es.set k x) := by
  refine ⟨by rw [List.length_set]; exact h.1, fun y hy => ?_⟩
  rcases List.mem_or_eq_of_mem_set hy with h1 | h1
  · exact h.2 y h1
  · rw [h1]; exact hx
theorem set_gr {w W : World} {rb B : Nat} (h : w.grownBy W (some rb)) (hB : w.heap.size ≤ B) (i j k l : Nat) (a b c d : Value) : w.grownBy ((((W.setCell ⟨B, i, none⟩ a).setCell ⟨B, j, none⟩ b).setCell ⟨B, k, none⟩ c).setCell ⟨B, l, none⟩ d) (some rb) :=
  set1_gr (set1_gr (set1_gr (set1_gr h hB _ _) hB _ _) hB _ _) hB _ _
set_option maxRecDepth 1000000 in
set_option maxHeartbeats 16000000 in
theorem l11AnyTree_any (rb b : Nat) (w : World) (h : RdB w rb b) (hb : b ≤ 600000) :
    Calls Tryd.prog 82 #[.pointer (some ⟨rb, 0, none⟩)] w (TrB DrT rb (b + 50) w) := by
  have hlt := h.lt
  obtain ⟨i0, hi, hz0, hz1, hz2⟩ := info_parts infoE
  replace hi := Lib.hid hi
  replace hz0 := Lib.hid hz0
  replace hz1 := Lib.hid hz1
  replace hz2 := Lib.hid hz2
  go_enter Tryd.func82, Tryd.ntmps82
  go_wp2_with fail
  with_reducible refine (l11Tree_any rb b w h (by omega)).mono ?_
  rintro e w1 ⟨es, g1, c1, hd, rfl, hO1, hR1, hg1⟩
  have hl16 := hd.1
  have hT : DrT es := ⟨by omega, hd.2⟩
  replace hd := Lib.hid hd
  go_wp2_with fail
  with_reducible refine (l2Copy_own es g1 c1 w1 hO1.parts.1.ents (by omega)).mono ?_
  rintro e w2 ⟨g2, c2, rfl, hO2, hB2⟩
  have hsz := hg1.size
  replace hO2 := hO2.lower hsz
  have hR2 := hR1.below hB2 (Nat.le_refl _)
  have hg2 := gr_then hg1 hB2 hsz
  clear hO1 hR1 hg1 hB2 hsz
  replace hO2 := Lib.hid hO2
  go_wp2_with fail
  with_reducible refine (pick_b rb (b + 40) 14 w2 hR2 (by omega) (by omega) (by omega)).mono ?_
  rintro e w3 ⟨v, hv, rfl, hR3, hg3⟩
  have hO3 := Lib.hid (own_gr hO2.out hg3 hlt)
  replace hg3 := grown_trans hg2 hg3
  clear hO2 hR2 hg2
  by_cases v0 : v = 0
  · subst v0
    go_wp2_with fail
    with_reducible refine (l11AnyEntry_any rb (b + 40 + 1) w3 hR3 (by omega)).mono ?_
    rintro e w4 ⟨x, hx, rfl, hR4, hg4⟩
    have hO4 := own_gr hO3.out hg4 hlt
    replace hg4 := grown_trans hg3 hg4
    clear hO3 hR3 hg3
    have h63 : es.length + 1 ≤ maxLen := by simp only [maxLen]; omega
    have hby : (es.length + 1) * 48 ≤ 140737488355328 := by omega
    have hbs := hg4.size
    have hone := Lib.hid (cellsE_one x)
    have hg2l := hO4.parts.2.1
    unfold OwnR at hO4
    replace hO4 := Lib.hid hO4
    obtain ⟨p, kd, md, t⟩ := x
    replace hg4 := Lib.hid hg4
    replace hR4 := Lib.hid hR4
    go_wp2_with (at_builtin; go_loud (refine wpList_push rfl _ _ 27 rfl w.heap.size 31 i0 _ 4 48 Tryd.underlying27 hi.out hz0.out hz1.out hz2.out rfl (by decide) w4 _ es.length (flatE es) hO4.out rfl (cellsE ⟨p, kd, md, t⟩) rfl rfl hone.out h63 hby hbs ?_); intro g5 c5 w5 hown5 hgr5 hB5 hat5)
    have hO5 : OwnR w5 w.heap.size g5 c5 (es ++ [⟨p, kd, md, t⟩]) := by unfold OwnR; rw [flatE_snoc, List.length_append]; exact hown5
    have hR5 : RdB w5 rb (b + 40 + 1 + 7) := hR4.out.kept hgr5 (fun r e => by cases e; show rb < g2; omega)
    have hg5 : w.grownBy w5 (some rb) := gr_then hg4.out hB5 (Nat.le_refl _)
    have hT5 : DrT (es ++ [⟨p, kd, md, t⟩]) := ⟨by simp; omega, fun y hy => by
      rcases List.mem_append.1 hy with h1 | h1
      · exact hd.out.2 y h1
      · simp only [List.mem_singleton] at h1; rw [h1]; exact hx⟩
    have hl5 : (es ++ [(⟨p, kd, md, t⟩ : En)]).length = es.length + 1 := by simp
    replace hO5 := Lib.hid hO5
    replace hR5 := Lib.hid hR5
    replace hg5 := Lib.hid hg5
    replace hT5 := Lib.hid hT5
    replace hl5 := Lib.hid hl5
    clear hown5 hgr5 hB5 hat5
    go_wp2
    refine bodyPost_ret (v := .slice (some ⟨g5, 0, none⟩) (es.length + 1) c5) (by simp [results, Tryd.results82, go_sem]) rfl ?_
    exact ⟨es ++ [⟨p, kd, md, t⟩], g5, c5, hT5.out, by rw [hl5.out], hO5.out, hR5.out.le (by omega), hg5.out⟩
  by_cases v1 : v = 1
  · subst v1
    replace v0 := Lib.hid v0
    by_cases hpos : 0 < es.length
    · have hpI : (0 : Int) < (es.length : Int) := by omega
      go_wp2_with fail
      with_reducible refine (pick_b rb (b + 40 + 1) es.length w3 hR3 (by omega) (by omega) (by omega)).mono ?_
      rintro e w4 ⟨k, hk, rfl, hR4, hg4⟩
      have hO4 := Lib.hid (own_gr hO3.out hg4 hlt)
      replace hg4 := grown_trans hg3 hg4
      clear hO3 hR3 hg3
      go_wp2_with fail
      with_reducible refine (l11AnyEntry_any rb (b + 40 + 1 + 1) w4 hR4 (by omega)).mono ?_
      rintro e w5 ⟨x, hx, rfl, hR5, hg5⟩
      have hO5 := own_gr hO4.out hg5 hlt
      replace hg5 := grown_trans hg4 hg5
      clear hO4 hR4 hg4
      obtain ⟨p, kd, md, t⟩ := x
      obtain ⟨hrow, hlo, hnc, hmx⟩ := hO5.parts
      have hkl : k < es.length := by omega
      obtain ⟨r0, x0⟩ := hrow.room (j := k * 4) (by omega)
      obtain ⟨r1, x1⟩ := hrow.room (j := k * 4 + 1) (by omega)
      obtain ⟨r2, x2⟩ := hrow.room (j := k * 4 + 2) (by omega)
      obtain ⟨r3, x3⟩ := hrow.room (j := k * 4 + 3) (by omega)
      have f0 := hrow.frozen (k * 4)
      have f1 := hrow.frozen (k * 4 + 1)
      have f2 := hrow.frozen (k * 4 + 2)
      have f3 := hrow.frozen (k * 4 + 3)
      have hset := Lib.hid (hrow.setAt ⟨p, kd, md, t⟩ hkl hnc)
      have hR6 := Lib.hid (((((hR5.set (g := g2) (j := k * 4) (v := .string (mkB p)) (by omega)).set (g := g2) (j := k * 4 + 1) (v := .int .i64 kd) (by omega)).set (g := g2) (j := k * 4 + 2) (v := .int .i64 md) (by omega)).set (g := g2) (j := k * 4 + 3) (v := .string (mkB t)) (by omega)))
      have hg6 := Lib.hid (set_gr hg5 hlo (k * 4) (k * 4 + 1) (k * 4 + 2) (k * 4 + 3) (.string (mkB p)) (.int .i64 kd) (.int .i64 md) (.string (mkB t)))
      clear hR5 hg5 hrow hO5
      go_wp2
      refine bodyPost_ret (v := .slice (some ⟨g2, 0, none⟩) es.length c2) (by simp [results, Tryd.results82, go_sem]) rfl ?_
      exact ⟨es.set k ⟨p, kd, md, t⟩, g2, c2, drT_set hT hx, by rw [List.length_set], OwnR.of hset.out hlo (by rw [List.length_set]; exact hnc) hmx, hR6.out.le (by omega), hg6.out⟩
    · have hpI : ¬ (0 : Int) < (es.length : Int) := by omega
      go_wp2
      go_ret
      exact ⟨es, g2, c2, hT, rfl, hO3.out, hR3.le (by omega), hg3⟩
  have h0 : ((v : Int) == 0) = false := by simp; omega
  have h1 : ((v : Int) == 1) = false := by simp; omega
  replace v0 := Lib.hid v0
  replace v1 := Lib.hid v1
  go_wp2
  go_ret
  exact ⟨es, g2, c2, hT, rfl, hO3.out, hR3.le (by omega), hg3⟩

set_option maxRecDepth 1000000 in
set_option maxHeartbeats 4000000 in
theorem l11At_any (rb b lo g c : Nat) (es : List En) (w : World) (h : RdB w rb b) (hb : b ≤ 600000) (hE : OwnR w lo g c es) (hr : rb < lo) (hT : DrT es) :
    Calls Tryd.prog 84 #[.pointer (some ⟨rb, 0, none⟩), .slice (some ⟨g, 0, none⟩) es.length c] w (OfB Plain2 rb (b + 4) w) := by
  have hl17 := hT.1
  go_enter Tryd.func84, Tryd.ntmps84
  by_cases hpos : 0 < es.length
  · have hpI : (0 : Int) < (es.length : Int) := by omega
    go_wp2_with fail
    with_reducible refine (pick_b rb b 4 w h (by omega) (by omega) (by omega)).mono ?_
    rintro e w1 ⟨v, hv, rfl, hR1, hg1⟩
    have hE1 := Lib.hid (own_gr hE hg1 hr)
    clear hE
    by_cases hv0 : 0 < v
    · have hvI : (0 : Int) < (v : Int) := by omega
      go_wp2_with fail
      with_reducible refine (pick_b rb (b + 1) es.length w1 hR1 (by omega) (by omega) (by omega)).mono ?_
      rintro e w2 ⟨k, hk, rfl, hR2, hg2⟩
      have hE2 := own_gr hE1.out hg2 hr
      replace hg2 := grown_trans hg1 hg2
      have hkl : k < es.length := by omega
      obtain ⟨c0, c1, c2, c3⟩ := hE2.parts.1.ents.2 k hkl
      have hpl := (hT.2 _ (List.getElem_mem hkl)).1
      go_wp2
      go_ret
      exact ⟨es[k].path, hpl, rfl, hR2.le (by omega), hg2⟩
    · have hvI : ¬ (0 : Int) < (v : Int) := by omega
      go_wp2_with fail
      with_reducible refine (any_b rb (b + 1) w1 hR1 (by omega)).mono ?_
      rintro e w2 ⟨s, hs, rfl, hR2, hg2⟩
      go_wp2
      go_ret
      exact ⟨s, hs, rfl, hR2.le (by omega), grown_trans hg1 hg2⟩
  · have hpI : ¬ (0 : Int) < (es.length : Int) := by omega
    go_wp2_with fail
    with_reducible refine (any_b rb b w h (by omega)).mono ?_
    rintro e w2 ⟨s, hs, rfl, hR2, hg2⟩
    go_wp2
    go_ret
    exact ⟨s, hs, rfl, hR2.le (by omega), hg2⟩
theorem below_gr {w w1 w2 : World} {rb : Nat} (hB : Below w.heap.size w w1) (hr : w.heap.size ≤ rb) (hg : w1.grownBy w2 (some rb)) : Below w.heap.size w w2 :=
  hB.grown hg hB.size (fun k e => by cases e; exact hr)
/-- a tree was drawn -/
def DTree (w : World) (e : Ending) (w' : World) : Prop := ∃ es g c, DrT es ∧ e = .returned (.slice (some ⟨g, 0, none⟩) es.length c) ∧ OwnR w' w.heap.size g c es ∧ Below w.heap.size w w'
def DTreeS (w : World) (e : Ending) (w' : World) : Prop := ∃ es g c s, DrT es ∧ Plain2 s ∧ e = .returned (.tuple #[.slice (some ⟨g, 0, none⟩) es.length c, .string (mkB s)]) ∧ OwnR w' w.heap.size g c es ∧ Below w.heap.size w w'
def DTreeSS (w : World) (e : Ending) (w' : World) : Prop := ∃ es g c s t, DrT es ∧ Plain2 s ∧ Plain2 t ∧ e = .returned (.tuple #[.slice (some ⟨g, 0, none⟩) es.length c, .string (mkB s), .string (mkB t)]) ∧ OwnR w' w.heap.size g c es ∧ Below w.heap.size w w'
def DTreeE (w : World) (e : Ending) (w' : World) : Prop := ∃ es g c x, DrT es ∧ DrE x ∧ e = .returned (.tuple #[.slice (some ⟨g, 0, none⟩) es.length c, enV x]) ∧ OwnR w' w.heap.size g c es ∧ Below w.heap.size w w'

set_option maxHeartbeats 2000000 in
theorem DrawTreeText_any (A : Option Addr) (n c : Nat) (w : World) (h : IsBytes w A n c) :
    Calls Tryd.prog 48 #[.slice A n c] w (DTree w) := by
  go_enter Tryd.func48, Tryd.ntmps48
  go_wp2_with fail
  with_reducible refine (l1Open_any A n c w h).mono ?_
  rintro e w1 ⟨rb, hr, rfl, hR, hB⟩
  have hs1 := hB.size
  go_wp2_with fail
  with_reducible refine (l11AnyTree_any rb 0 w1 (RdB.of hR) (by omega)).mono ?_
  rintro e w2 ⟨es, g, c', hT, rfl, hO, hR2, hg⟩
  go_wp2
  go_ret
  exact ⟨es, g, c', hT, rfl, hO.lower hs1, below_gr hB hr hg⟩
set_option maxHeartbeats 2000000 in
theorem DrawTreeGet_any (A : Option Addr) (n c : Nat) (w : World) (h : IsBytes w A n c) :
    Calls Tryd.prog 70 #[.slice A n c] w (DTreeS w) := by
  go_enter Tryd.func70, Tryd.ntmps70
  go_wp2_with fail
  with_reducible refine (l1Open_any A n c w h).mono ?_
  rintro e w1 ⟨rb, hr, rfl, hR, hB⟩
  have hs1 := hB.size
  have hrl := hR.lt
  go_wp2_with fail
  with_reducible refine (l11AnyTree_any rb 0 w1 (RdB.of hR) (by omega)).mono ?_
  rintro e w2 ⟨es, g, c', hT, rfl, hO, hR2, hg⟩
  have hB2 := below_gr hB hr hg
  go_wp2_with fail
  with_reducible refine (l11At_any rb (0 + 50) w1.heap.size g c' es w2 hR2 (by omega) hO hrl hT).mono ?_
  rintro e w3 ⟨s, hs, rfl, hR3, hg3⟩
  have hO3 := own_gr hO hg3 hrl
  go_wp2
  refine bodyPost_ret (v := .tuple #[.slice (some ⟨g, 0, none⟩) es.length c', .string (mkB s)]) (by simp [results, Tryd.results70, go_sem]) rfl ?_
  exact ⟨es, g, c', s, hT, hs, rfl, hO3.lower hs1, below_gr hB2 hr hg3⟩
set_option maxHeartbeats 2000000 in
theorem DrawTreeFollow_any (A : Option Addr) (n c : Nat) (w : World) (h : IsBytes w A n c) :
    Calls Tryd.prog 34 #[.slice A n c] w (DTreeS w) := by
  go_enter Tryd.func34, Tryd.ntmps34
  go_wp2_with fail
  with_reducible refine (DrawTreeGet_any A n c w h).mono ?_
  rintro e w1 ⟨es, g, c', s, hT, hs, rfl, hO, hB⟩
  go_wp2
  refine bodyPost_ret (v := .tuple #[.slice (some ⟨g, 0, none⟩) es.length c', .string (mkB s)]) (by simp [results, Tryd.results34, go_sem]) rfl ?_
  exact ⟨es, g, c', s, hT, hs, rfl, hO, hB⟩
set_option maxHeartbeats 2000000 in
theorem DrawTreeDrop_any (A : Option Addr) (n c : Nat) (w : World) (h : IsBytes w A n c) :
    Calls Tryd.prog 39 #[.slice A n c] w (DTreeS w) := by
  go_enter Tryd.func39, Tryd.ntmps39
  go_wp2_with fail
  with_reducible refine (DrawTreeGet_any A n c w h).mono ?_
  rintro e w1 ⟨es, g, c', s, hT, hs, rfl, hO, hB⟩
  go_wp2
  refine bodyPost_ret (v := .tuple #[.slice (some ⟨g, 0, none⟩) es.length c', .string (mkB s)]) (by simp [results, Tryd.results39, go_sem]) rfl ?_
  exact ⟨es, g, c', s, hT, hs, rfl, hO, hB⟩
set_option maxHeartbeats 2000000 in
theorem DrawTreeMove_any (A : Option Addr) (n c : Nat) (w : World) (h : IsBytes w A n c) :
    Calls Tryd.prog 46 #[.slice A n c] w (DTreeSS w) := by
  go_enter Tryd.func46, Tryd.ntmps46
  go_wp2_with fail
  with_reducible refine (l1Open_any A n c w h).mono ?_
  rintro e w1 ⟨rb, hr, rfl, hR, hB⟩
  have hs1 := hB.size
  have hrl := hR.lt
  go_wp2_with fail
  with_reducible refine (l11AnyTree_any rb 0 w1 (RdB.of hR) (by omega)).mono ?_
  rintro e w2 ⟨es, g, c', hT, rfl, hO, hR2, hg⟩
  have hB2 := below_gr hB hr hg
  go_wp2_with fail
  with_reducible refine (l11At_any rb (0 + 50) w1.heap.size g c' es w2 hR2 (by omega) hO hrl hT).mono ?_
  rintro e w3 ⟨s, hs, rfl, hR3, hg3⟩
  have hO3 := own_gr hO hg3 hrl
  have hB3 := below_gr hB2 hr hg3
  go_wp2_with fail
  with_reducible refine (any_b rb (0 + 50 + 4) w3 hR3 (by omega)).mono ?_
  rintro e w4 ⟨t, ht, rfl, hR4, hg4⟩
  have hO4 := own_gr hO3 hg4 hrl
  go_wp2
  refine bodyPost_ret (v := .tuple #[.slice (some ⟨g, 0, none⟩) es.length c', .string (mkB s), .string (mkB t)]) (by simp [results, Tryd.results46, go_sem]) rfl ?_
  exact ⟨es, g, c', s, t, hT, hs, ht, rfl, hO4.lower hs1, below_gr hB3 hr hg4⟩
end Go.Proofs.YtjihpbioofikcaaDoor
