/-
  The walk of the program's TreePut.
-/
import Derived.Test.YtjihpbioofikcaaDoorInsE
namespace Go.Proofs.YtjihpbioofikcaaDoor
open Go.RowKit
set_option linter.unusedVariables false
set_option linter.unusedSimpArgs false
attribute [local go_sem] mkB_size mkB_extract mkB_get mkB_append mkB_append_raw raw_append_mkB mkB_toList

/-- entries of the call's own were handed back -/
def CloneR (es : List En) (w : World) (r : Ending) (w' : World) : Prop := ∃ g c, r = .returned (.slice (some ⟨g, 0, none⟩) es.length c) ∧ OwnR w' w.heap.size g c es ∧ Below w.heap.size w w'
set_option maxRecDepth 1000000 in
set_option maxHeartbeats 4000000 in
theorem Clone_own (es : List En) (g c : Nat) (w : World) (hE : Ents w g es) (hlen : es.length ≤ 1048576) :
    Calls Tryd.prog 53 #[.slice (some ⟨g, 0, none⟩) es.length c] w (CloneR es w) := by
  have hflat := Lib.hid ((hE.alloc (.cells #[] 31)).flat)
  have hfl := flatE_length es
  have hone := Lib.hid (flatE_one es)
  have hown0 := Lib.hid (World.ownsRow_made (base := w.heap.size) (e := 31) (size := 4) w #[] 0 (Nat.le_refl _) (by simp [maxLen]) rfl)
  clear hE
  obtain ⟨i0, hi, hz0, hz1, hz2⟩ := info_parts infoE
  replace hi := Lib.hid hi
  replace hz0 := Lib.hid hz0
  replace hz1 := Lib.hid hz1
  replace hz2 := Lib.hid hz2
  replace hfl := Lib.hid hfl
  have h63 : 0 + es.length ≤ maxLen := by unfold maxLen; omega
  have hby : (0 + es.length) * 48 ≤ 140737488355328 := by omega
  have hbs : w.heap.size ≤ (w.alloc (.cells #[] 31)).heap.size := by simp
  have hnl : ∀ W, (binOp .eql 27 (.slice (some ⟨g, 0, none⟩) es.length c) (.slice none 0 0)).run Tryd.prog W = .ok (.bool false) W := fun W => Lib.run_eql_slice_nil W _ _ _ _ _ _ _ Tryd.underlying27
  go_enter Tryd.func53, Tryd.ntmps53
  go_wp2_with (at_builtin; go_loud (refine wpList_append_own _ rfl _ _ _ rfl w.heap.size 31 i0 _ 4 48 Tryd.underlying27 hi.out hz0.out hz1.out hz2.out rfl (by decide) _ 0 [] rfl hown0.out ⟨g, 0, none⟩ es.length c (flatE es) rfl hfl.out hflat.out hone.out h63 hby hbs ?_); intro v' w1 hown hgr hnil)
  rw [Nat.zero_add, List.nil_append] at hown
  have hne : v' ≠ .slice none 0 0 := fun e => by have := (hnil.1 e).1; cases this
  obtain ⟨g', cap, rfl, hg', hc', hm'⟩ := own_form hown hne
  have hR : OwnR w1 w.heap.size g' cap es := hown
  have hB : Below w.heap.size w w1 := ((Below.refl _ _).alloc (Nat.le_refl _) _).grown hgr (by simp) (fun k e => by cases e; exact Nat.le_refl _)
  clear hown hgr hnil hne
  replace hR := Lib.hid hR
  go_wp2
  go_ret
  exact ⟨g', cap, rfl, hR.out, hB⟩
set_option maxRecDepth 1000000 in
set_option maxHeartbeats 4000000 in
theorem l2Copy_own (es : List En) (g c : Nat) (w : World) (hE : Ents w g es) (hlen : es.length ≤ 1048576) :
    Calls Tryd.prog 78 #[.slice (some ⟨g, 0, none⟩) es.length c] w (CloneR es w) := by
  have hflat := Lib.hid ((hE.alloc (.cells #[] 31)).flat)
  have hfl := flatE_length es
  have hone := Lib.hid (flatE_one es)
  have hown0 := Lib.hid (World.ownsRow_made (base := w.heap.size) (e := 31) (size := 4) w #[] 0 (Nat.le_refl _) (by simp [maxLen]) rfl)
  clear hE
  obtain ⟨i0, hi, hz0, hz1, hz2⟩ := info_parts infoE
  replace hi := Lib.hid hi
  replace hz0 := Lib.hid hz0
  replace hz1 := Lib.hid hz1
  replace hz2 := Lib.hid hz2
  replace hfl := Lib.hid hfl
  have h63 : 0 + es.length ≤ maxLen := by unfold maxLen; omega
  have hby : (0 + es.length) * 48 ≤ 140737488355328 := by omega
  have hbs : w.heap.size ≤ (w.alloc (.cells #[] 31)).heap.size := by simp
  go_enter Tryd.func78, Tryd.ntmps78
  go_wp2_with (at_builtin; go_loud (refine wpList_append_own _ rfl _ _ _ rfl w.heap.size 31 i0 _ 4 48 Tryd.underlying27 hi.out hz0.out hz1.out hz2.out rfl (by decide) _ 0 [] rfl hown0.out ⟨g, 0, none⟩ es.length c (flatE es) rfl hfl.out hflat.out hone.out h63 hby hbs ?_); intro v' w1 hown hgr hnil)
  rw [Nat.zero_add, List.nil_append] at hown
  have hne : v' ≠ .slice none 0 0 := fun e => by have := (hnil.1 e).1; cases this
  obtain ⟨g', cap, rfl, hg', hc', hm'⟩ := own_form hown hne
  have hR : OwnR w1 w.heap.size g' cap es := hown
  have hB : Below w.heap.size w w1 := ((Below.refl _ _).alloc (Nat.le_refl _) _).grown hgr (by simp) (fun k e => by cases e; exact Nat.le_refl _)
  clear hown hgr hnil hne
  replace hR := Lib.hid hR
  go_wp2
  go_ret
  exact ⟨g', cap, rfl, hR.out, hB⟩
/-- entries of the call's own and a word were handed back, in a block -/
def ResN (x : List En × Bool) (w : World) (r : Ending) (w' : World) : Prop := ∃ g c, r = .returned (.tuple #[.slice (some ⟨g, 0, none⟩) x.1.length c, .bool x.2]) ∧ OwnR w' w.heap.size g c x.1 ∧ Below w.heap.size w w'
theorem OwnR.own {w : World} {lo g c : Nat} {es : List En} (h : OwnR w lo g c es) : OwnE w lo (some ⟨g, 0, none⟩) es := .inr ⟨g, c, rfl, h.parts.2.1, h.parts.2.2.1, h.parts.1⟩
theorem OwnR.lower {w : World} {lo lo' g c : Nat} {es : List En} (h : OwnR w lo g c es) (hl : lo' ≤ lo) : OwnR w lo' g c es := OwnR.of h.parts.1 (Nat.le_trans hl h.parts.2.1) h.parts.2.2.1 h.parts.2.2.2
/-- one entry is written -/
theorem RowE.setAt {w : World} {g m k : Nat} {es : List En} (h : RowE w g m es.length es) (e : En) (hk : k < es.length) (hm : es.length ≤ m) :
    RowE ((((w.setCell ⟨g, k * 4, none⟩ (.string (mkB e.path))).setCell ⟨g, k * 4 + 1, none⟩ (.int .i64 e.kind)).setCell ⟨g, k * 4 + 2, none⟩ (.int .i64 e.mode)).setCell ⟨g, k * 4 + 3, none⟩ (.string (mkB e.text))) g m (es.set k e).length (es.set k e) := by
  obtain ⟨cur, hh, hs, hc⟩ := h
  refine ⟨_, heap_set (heap_set (heap_set (heap_set hh))), by simp [hs], fun i hi _ => ?_⟩
  simp only [List.length_set] at hi
  simp only [Array.getElem?_setIfInBounds, Array.size_setIfInBounds, hs]
  by_cases hik : k = i
  · subst hik
    rw [List.getElem_set_self]
    refine ⟨?_, ?_, ?_, ?_⟩
    · rw [if_neg (by omega), if_neg (by omega), if_neg (by omega), if_pos rfl, if_pos (by omega)]
    · rw [if_neg (by omega), if_neg (by omega), if_pos rfl, if_pos (by omega)]
    · rw [if_neg (by omega), if_pos rfl, if_pos (by omega)]
    · rw [if_pos rfl, if_pos (by omega)]
  · rw [List.getElem_set_ne hik]
    obtain ⟨c0, c1, c2, c3⟩ := hc i hi hi
    refine ⟨?_, ?_, ?_, ?_⟩
    · rw [if_neg (by omega), if_neg (by omega), if_neg (by omega), if_neg (by omega)]; exact c0
    · rw [if_neg (by omega), if_neg (by omega), if_neg (by omega), if_neg (by omega)]; exact c1
    · rw [if_neg (by omega), if_neg (by omega), if_neg (by omega), if_neg (by omega)]; exact c2
    · rw [if_neg (by omega), if_neg (by omega), if_neg (by omega), if_neg (by omega)]; exact c3
theorem pathUp_ok {p : List UInt8} (h : pathOk p = true) : pathUp p = upL p := by unfold pathUp; rw [if_pos h]

set_option maxRecDepth 1000000 in
set_option maxHeartbeats 16000000 in
theorem TreePut_any (es : List En) (e : En) (g c : Nat) (w : World) (hE : Ents w g es) (hsm : Small es) (hcap : es.length ≤ c) (hp : e.path.length ≤ 1048576) (ht : e.text.length ≤ 1048576) :
    Calls Tryd.prog 24 #[.slice (some ⟨g, 0, none⟩) es.length c, enV e] w (ResE (treePut es e) w) := by
  obtain ⟨ee, hee⟩ : ∃ x, x = e := ⟨_, rfl⟩
  obtain ⟨p, kind, mode, t⟩ := e
  simp only at hp ht
  have hEh := Lib.hid hE
  have hsh := Lib.hid hsm
  have hlen := hsm.1
  clear hE hsm
  have hstart : ∃ W1, w.alloc (.cells #[.string (mkB p), .int .i64 kind, .int .i64 mode, .string (mkB t)] 31) = W1 ∧ Box4 W1 w.heap.size 31 (.string (mkB p)) (.int .i64 kind) (.int .i64 mode) (.string (mkB t)) ∧ Ents W1 g es ∧ Below w.heap.size w W1 := 
    ⟨_, rfl, Box4.new _ _ _ _ _ _, hEh.out.alloc _, (Below.refl _ _).alloc (Nat.le_refl _) _⟩
  replace hstart := Lib.hid hstart
  have hen0 := fun W => entryOk_any ⟨p, kind, mode, t⟩ hp ht W
  replace hen0 := Lib.hid hen0
  replace hee := Lib.hid hee
  go_enter Tryd.func24, Tryd.ntmps24
  go_wp2_with fail
  obtain ⟨W1, hW1, hb1, hE1, hB1⟩ := hstart.out
  rw [hW1]
  clear hW1
  have hz1 := hb1.lt
  refine (TreeOk_any es g c _ hE1 hsh.out hcap).mono ?_
  rintro r w2 ⟨rfl, hB⟩
  have hB2 := hB1.trans (hB.mono (by omega))
  have hb2 := Lib.hid (hb1.below hB hz1)
  have hE2 := Lib.hid (hE1.below hB hE1.1)
  clear hb1 hE1
  rcases boolOf (treeOk es) with hok | hok
  · rw [hok.out]
    go_wp2
    refine bodyPost_ret (v := .tuple #[.slice none 0 0, .bool false]) (by simp [results, Tryd.results24, go_sem]) rfl ?_
    rw [treePut_bad hok.out]
    exact ⟨none, 0, rfl, .inl rfl, hB2⟩
  rw [hok.out]
  go_wp2_with fail
  refine (Clone_own es g c w2 hE2.out hlen).mono ?_
  rintro r w3 ⟨g3, c3, rfl, hR3, hB3⟩
  have hb3 := Lib.hid (hb2.out.below hB3 hb2.out.lt)
  have hE3 := Lib.hid (hE2.out.below hB3 hE2.out.1)
  have hC3 := hB2.trans (hB3.mono hB2.size)
  have hlo3 : w.heap.size < w2.heap.size := hb2.out.lt
  have hg3 := hR3.parts.2.1
  have hgl3 := hR3.lt
  have hnc3 := hR3.parts.2.2.1
  have hm3 := hR3.parts.2.2.2
  unfold maxLen at hm3
  replace hR3 := Lib.hid hR3
  have d0 := hb3.out.cell0
  have d1 := hb3.out.cell1
  have d2 := hb3.out.cell2
  have d3 := hb3.out.cell3
  go_wp2_with fail
  refine (hen0.out _).mono ?_
  rintro r w4 ⟨rfl, hB4⟩
  clear d0 d1 d2 d3
  have hb4 := Lib.hid (hb3.out.below hB4 hb3.out.lt)
  have hE4 := Lib.hid (hE3.out.below hB4 hE3.out.1)
  have hR4 := Lib.hid (hR3.out.below hB4 hgl3)
  have hC4 := hC3.trans (hB4.mono hC3.size)
  have hgl4 := hR4.out.lt
  rcases boolOf (entryOk ⟨p, kind, mode, t⟩) with hen | hen
  · rw [hen.out]
    go_wp2
    refine bodyPost_ret (v := .tuple #[.slice (some ⟨g3, 0, none⟩) es.length c3, .bool false]) (by simp [results, Tryd.results24, go_sem]) rfl ?_
    rw [treePut_ok hok.out, putL_bad hen.out]
    exact ⟨some ⟨g3, 0, none⟩, c3, rfl, (hR4.out.lower (by omega)).own, hC4⟩
  rw [hen.out]
  have d0 := hb4.out.cell0
  have d1 := hb4.out.cell1
  have d2 := hb4.out.cell2
  have d3 := hb4.out.cell3
  go_wp2_with fail
  refine (hasPlaceFor_any es p g c _ hE4.out (treeOk_is hok.out).sorted hlen hp).mono ?_
  rintro r w5 ⟨rfl, hB5⟩
  clear d0 d1 d2 d3
  have hb5 := Lib.hid (hb4.out.below hB5 hb4.out.lt)
  have hE5 := Lib.hid (hE4.out.below hB5 hE4.out.1)
  have hR5 := Lib.hid (hR4.out.below hB5 hgl4)
  have hC5 := hC4.trans (hB5.mono hC4.size)
  have hgl5 := hR5.out.lt
  rw [pathUp_ok (entryOk_path hen.out)]
  rcases boolOf (placeOk es (upL p)) with hpl | hpl
  · rw [hpl.out]
    go_wp2
    refine bodyPost_ret (v := .tuple #[.slice (some ⟨g3, 0, none⟩) es.length c3, .bool false]) (by simp [results, Tryd.results24, go_sem]) rfl ?_
    rw [treePut_ok hok.out, putL_place hpl.out]
    exact ⟨some ⟨g3, 0, none⟩, c3, rfl, (hR5.out.lower (by omega)).own, hC5⟩
  rw [hpl.out]
  have d0 := hb5.out.cell0
  have d1 := hb5.out.cell1
  have d2 := hb5.out.cell2
  have d3 := hb5.out.cell3
  go_wp2_with fail
  refine (findEntry_any es p g c _ hE5.out (treeOk_is hok.out).sorted hlen).mono ?_
  rintro r w6 ⟨rfl, hB6⟩
  clear d0 d1 d2 d3
  have hb6 := Lib.hid (hb5.out.below hB6 hb5.out.lt)
  have hE6 := Lib.hid (hE5.out.below hB6 hE5.out.1)
  have hR6 := Lib.hid (hR5.out.below hB6 hgl5)
  have hC6 := hC5.trans (hB6.mono hC5.size)
  have hgl6 := hR6.out.lt
  have hbl6 := hb6.out.lt
  have d0 := hb6.out.cell0
  have d1 := hb6.out.cell1
  have d2 := hb6.out.cell2
  have d3 := hb6.out.cell3
  obtain ⟨k, ha⟩ : ∃ k, atGo es p = k := ⟨_, rfl⟩
  have hkl : k ≤ es.length := by rw [← ha]; exact atGo_le es p
  rcases boolOf (there es p) with hth | hth
  · rw [hth.out, ha]
    replace ha := Lib.hid ha
    by_cases h16 : es.length = 16
    · have h16b : ((es.length : Int) == 16) = true := by rw [h16]; rfl
      replace h16 := Lib.hid h16
      clear d0 d1 d2 d3
      go_wp2
      refine bodyPost_ret (v := .tuple #[.slice (some ⟨g3, 0, none⟩) es.length c3, .bool false]) (by simp [results, Tryd.results24, go_sem]) rfl ?_
      rw [treePut_ok hok.out, putL_full hth.out (by rw [h16.out]; exact Nat.le_refl _)]
      exact ⟨some ⟨g3, 0, none⟩, c3, rfl, (hR6.out.lower (by omega)).own, hC6⟩
    · have h16b : ((es.length : Int) == 16) = false := by simp; omega
      have h16c : ¬ 16 ≤ es.length := by have := (treeOk_is hok.out).len; omega
      clear h16
      have hins : ∃ W7, w6.alloc (.cells #[.string (mkB p), .int .i64 kind, .int .i64 mode, .string (mkB t)] 31) = W7 ∧ Calls Tryd.prog 57 #[.slice (some ⟨g3, 0, none⟩) es.length c3, .int .i64 k, .slice (some ⟨w6.heap.size, 0, none⟩) 1 1] W7 (InsPost es k ⟨p, kind, mode, t⟩ w2.heap.size g3 W7) ∧ Below w6.heap.size w6 W7 := 
        ⟨_, rfl, Insert_any es ⟨p, kind, mode, t⟩ w2.heap.size g3 c3 w6.heap.size k _ (hR6.out.below ((Below.refl _ _).alloc (Nat.le_refl _) _) hgl6) hlen (by have := hB3.size; have := hB4.size; have := hB5.size; have := hB6.size; simp; omega) hkl (Box4.new _ _ _ _ _ _) (by omega), (Below.refl _ _).alloc (Nat.le_refl _) _⟩
      replace hins := Lib.hid hins
      go_wp2_with fail
      obtain ⟨W7, hW7, hcall, hB7⟩ := hins.out
      rw [hW7]
      clear hW7
      refine hcall.mono ?_
      rintro r w8 ⟨g8, c8, rfl, hR8, hat8, hgr8⟩
      have hC7 := hC6.trans (hB7.mono hC6.size)
      have hC8 : Below w.heap.size w w8 := hC7.grown hgr8 hC7.size (fun q hq => by cases hq; omega)
      replace hR8 := Lib.hid hR8
      replace hgr8 := Lib.hid hgr8
      replace hat8 := Lib.hid hat8
      clear d0 d1 d2 d3
      go_wp2
      refine bodyPost_ret (v := .tuple #[.slice (some ⟨g8, 0, none⟩) (es.length + 1) c8, .bool true]) (by simp [results, Tryd.results24, go_sem]) rfl ?_
      rw [treePut_ok hok.out, putL_ins hen.out hpl.out hth.out ha.out h16c]
      exact ⟨some ⟨g8, 0, none⟩, c8, by rw [insE_length _ hkl], (hR8.out.lower (by omega)).own, hC8⟩
  · obtain ⟨hk0, -⟩ := there_iff.1 hth.out
    have hk : k < es.length := by omega
    have hkI : (k : Int) < (es.length : Int) := by omega
    clear hk0
    rw [hth.out, ha]
    replace ha := Lib.hid ha
    obtain ⟨c0, c1, c2, c3'⟩ := hE6.out.2 k hk
    by_cases hkd : es[k].kind = kind
    case neg =>
      have hkb : (es[k].kind != kind) = true := by simp [hkd]
      replace hkd := Lib.hid hkd
      go_wp2_with fail
      go_region
      all_goals go_wp2
      all_goals refine bodyPost_ret (v := .tuple #[.slice (some ⟨g3, 0, none⟩) es.length c3, .bool false]) (by simp [results, Tryd.results24, go_sem]) rfl ?_
      all_goals rw [treePut_ok hok.out, putL_kind hth.out ha.out hk hkd.out]
      all_goals exact ⟨some ⟨g3, 0, none⟩, c3, rfl, (hR6.out.lower (by omega)).own, hC6.drew⟩
    have hkb : (es[k].kind != kind) = false := by simp [hkd]
    replace hkd := Lib.hid hkd
    obtain ⟨r0, x0⟩ := hR6.out.parts.1.room (j := k * 4) (by omega)
    obtain ⟨r1, x1⟩ := hR6.out.parts.1.room (j := k * 4 + 1) (by omega)
    obtain ⟨r2, x2⟩ := hR6.out.parts.1.room (j := k * 4 + 2) (by omega)
    obtain ⟨r3, x3⟩ := hR6.out.parts.1.room (j := k * 4 + 3) (by omega)
    have f0 := hR6.out.parts.1.frozen (k * 4)
    have f1 := hR6.out.parts.1.frozen (k * 4 + 1)
    have f2 := hR6.out.parts.1.frozen (k * 4 + 2)
    have f3 := hR6.out.parts.1.frozen (k * 4 + 3)
    have hset := Lib.hid (hR6.out.parts.1.setAt ⟨p, kind, mode, t⟩ hk hnc3)
    go_wp2_with fail
    go_region
    all_goals go_wp2
    all_goals refine bodyPost_ret (v := .tuple #[.slice (some ⟨g3, 0, none⟩) es.length c3, .bool true]) (by simp [results, Tryd.results24, go_sem]) rfl ?_
    all_goals rw [treePut_ok hok.out, putL_set hen.out hpl.out hth.out ha.out hk hkd.out]
    all_goals exact ⟨some ⟨g3, 0, none⟩, c3, by rw [List.length_set], .inr ⟨g3, c3, rfl, by omega, by rw [List.length_set]; exact hnc3, hset.out⟩, ((((hC6.setCell (p := ⟨g3, k * 4, none⟩) (by simp; omega) _).setCell (p := ⟨g3, k * 4 + 1, none⟩) (by simp; omega) _).setCell (p := ⟨g3, k * 4 + 2, none⟩) (by simp; omega) _).setCell (p := ⟨g3, k * 4 + 3, none⟩) (by simp; omega) _).drew⟩
end Go.Proofs.YtjihpbioofikcaaDoor
