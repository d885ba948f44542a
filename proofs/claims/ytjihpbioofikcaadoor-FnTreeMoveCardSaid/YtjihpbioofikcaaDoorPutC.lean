/-
  TreePut, with the room of what it hands back.
-/
import Derived.Test.YtjihpbioofikcaaDoorNilE
namespace Go.Proofs.YtjihpbioofikcaaDoor
open Go.RowKit
set_option linter.unusedVariables false
set_option linter.unusedSimpArgs false
attribute [local go_sem] mkB_size mkB_extract mkB_get mkB_append mkB_append_raw raw_append_mkB mkB_toList

/-- entries of the call's own: none at all, or in a block -/
def OwnC (w : World) (lo : Nat) (A : Option Addr) (c : Nat) (es : List En) : Prop := (A = none ∧ c = 0 ∧ es = []) ∨ ∃ g, A = some ⟨g, 0, none⟩ ∧ OwnR w lo g c es
theorem OwnR.c {w : World} {lo g c : Nat} {es : List En} (h : OwnR w lo g c es) : OwnC w lo (some ⟨g, 0, none⟩) c es := .inr ⟨g, rfl, h⟩
theorem OwnC.ine {w : World} {lo c : Nat} {A : Option Addr} {es : List En} (h : OwnC w lo A c es) : InE w A c es := by
  rcases h with h | ⟨g, h1, h2⟩
  · exact .inl h
  · exact .inr ⟨g, h1, h2.parts.1.ents, h2.parts.2.2.1⟩
theorem InE.sl {w : World} {c : Nat} {A : Option Addr} {es : List En} (h : InE w A c es) : SlE w A es := by
  rcases h with ⟨_, _, h⟩ | ⟨g, h1, h2, _⟩
  · exact .inl h
  · exact .inr ⟨g, h1, h2⟩
def ResC (x : List En × Bool) (w : World) (r : Ending) (w' : World) : Prop := ∃ A c', r = .returned (.tuple #[.slice A x.1.length c', .bool x.2]) ∧ OwnC w' w.heap.size A c' x.1 ∧ Below w.heap.size w w'

set_option maxRecDepth 1000000 in
set_option maxHeartbeats 16000000 in
theorem TreePut_c (es : List En) (e : En) (g c : Nat) (w : World) (hE : Ents w g es) (hsm : Small es) (hcap : es.length ≤ c) (hp : e.path.length ≤ 1048576) (ht : e.text.length ≤ 1048576) :
    Calls Tryd.prog 24 #[.slice (some ⟨g, 0, none⟩) es.length c, enV e] w (ResC (treePut es e) w) := by
  obtain ⟨ee, hee⟩ : ∃ x, x = e := ⟨_, rfl⟩
  obtain ⟨p, kind, mode, t⟩ := e
  simp only at hp ht
  have hEh := Lib.hid hE
  have hsh := Lib.hid hsm
  have hlen := hsm.1
  clear hE hsm
  have hstart : ∃ W1, w.alloc (.cells #[.string (mkB p), .int .i64 kind, .int .i64 mode, .string (mkB t)] 31) = W1 ∧ Box4 W1 w.heap.size 31 (.string (mkB p)) (.int .i64 kind) (.int .i64 mode) (.string (mkB t)) ∧ Ents W1 g es ∧ Below w.heap.size w W1 := 
    ⟨_, rfl, Box4.new _ _ _ _ _ _, hEh.out.alloc _, (Below.refl _ _).alloc (Nat.le_refl _) _⟩
  replace hstart := Lib.hid hstart
  have hen0 := fun W => entryOk_any ⟨p, kind, mode, t⟩ hp ht W
  replace hen0 := Lib.hid hen0
  replace hee := Lib.hid hee
  go_enter Tryd.func24, Tryd.ntmps24
  go_wp2_with fail
  obtain ⟨W1, hW1, hb1, hE1, hB1⟩ := hstart.out
  rw [hW1]
  clear hW1
  have hz1 := hb1.lt
  refine (TreeOk_any es g c _ hE1 hsh.out hcap).mono ?_
  rintro r w2 ⟨rfl, hB⟩
  have hB2 := hB1.trans (hB.mono (by omega))
  have hb2 := Lib.hid (hb1.below hB hz1)
  have hE2 := Lib.hid (hE1.below hB hE1.1)
  clear hb1 hE1
  rcases boolOf (treeOk es) with hok | hok
  · rw [hok.out]
    go_wp2
    refine bodyPost_ret (v := .tuple #[.slice none 0 0, .bool false]) (by simp [results, Tryd.results24, go_sem]) rfl ?_
    rw [treePut_bad hok.out]
    exact ⟨none, 0, rfl, .inl ⟨rfl, rfl, rfl⟩, hB2⟩
  rw [hok.out]
  go_wp2_with fail
  refine (Clone_own es g c w2 hE2.out hlen).mono ?_
  rintro r w3 ⟨g3, c3, rfl, hR3, hB3⟩
  have hb3 := Lib.hid (hb2.out.below hB3 hb2.out.lt)
  have hE3 := Lib.hid (hE2.out.below hB3 hE2.out.1)
  have hC3 := hB2.trans (hB3.mono hB2.size)
  have hlo3 : w.heap.size < w2.heap.size := hb2.out.lt
  have hg3 := hR3.parts.2.1
  have hgl3 := hR3.lt
  have hnc3 := hR3.parts.2.2.1
  have hm3 := hR3.parts.2.2.2
  unfold maxLen at hm3
  replace hR3 := Lib.hid hR3
  have d0 := hb3.out.cell0
  have d1 := hb3.out.cell1
  have d2 := hb3.out.cell2
  have d3 := hb3.out.cell3
  go_wp2_with fail
  refine (hen0.out _).mono ?_
  rintro r w4 ⟨rfl, hB4⟩
  clear d0 d1 d2 d3
  have hb4 := Lib.hid (hb3.out.below hB4 hb3.out.lt)
  have hE4 := Lib.hid (hE3.out.below hB4 hE3.out.1)
  have hR4 := Lib.hid (hR3.out.below hB4 hgl3)
  have hC4 := hC3.trans (hB4.mono hC3.size)
  have hgl4 := hR4.out.lt
  rcases boolOf (entryOk ⟨p, kind, mode, t⟩) with hen | hen
  · rw [hen.out]
    go_wp2
    refine bodyPost_ret (v := .tuple #[.slice (some ⟨g3, 0, none⟩) es.length c3, .bool false]) (by simp [results, Tryd.results24, go_sem]) rfl ?_
    rw [treePut_ok hok.out, putL_bad hen.out]
    exact ⟨some ⟨g3, 0, none⟩, c3, rfl, (hR4.out.lower (by omega)).c, hC4⟩
  rw [hen.out]
  have d0 := hb4.out.cell0
  have d1 := hb4.out.cell1
  have d2 := hb4.out.cell2
  have d3 := hb4.out.cell3
  go_wp2_with fail
  refine (hasPlaceFor_any es p g c _ hE4.out (treeOk_is hok.out).sorted hlen hp).mono ?_
  rintro r w5 ⟨rfl, hB5⟩
  clear d0 d1 d2 d3
  have hb5 := Lib.hid (hb4.out.below hB5 hb4.out.lt)
  have hE5 := Lib.hid (hE4.out.below hB5 hE4.out.1)
  have hR5 := Lib.hid (hR4.out.below hB5 hgl4)
  have hC5 := hC4.trans (hB5.mono hC4.size)
  have hgl5 := hR5.out.lt
  rw [pathUp_ok (entryOk_path hen.out)]
  rcases boolOf (placeOk es (upL p)) with hpl | hpl
  · rw [hpl.out]
    go_wp2
    refine bodyPost_ret (v := .tuple #[.slice (some ⟨g3, 0, none⟩) es.length c3, .bool false]) (by simp [results, Tryd.results24, go_sem]) rfl ?_
    rw [treePut_ok hok.out, putL_place hpl.out]
    exact ⟨some ⟨g3, 0, none⟩, c3, rfl, (hR5.out.lower (by omega)).c, hC5⟩
  rw [hpl.out]
  have d0 := hb5.out.cell0
  have d1 := hb5.out.cell1
  have d2 := hb5.out.cell2
  have d3 := hb5.out.cell3
  go_wp2_with fail
  refine (findEntry_any es p g c _ hE5.out (treeOk_is hok.out).sorted hlen).mono ?_
  rintro r w6 ⟨rfl, hB6⟩
  clear d0 d1 d2 d3
  have hb6 := Lib.hid (hb5.out.below hB6 hb5.out.lt)
  have hE6 := Lib.hid (hE5.out.below hB6 hE5.out.1)
  have hR6 := Lib.hid (hR5.out.below hB6 hgl5)
  have hC6 := hC5.trans (hB6.mono hC5.size)
  have hgl6 := hR6.out.lt
  have hbl6 := hb6.out.lt
  have d0 := hb6.out.cell0
  have d1 := hb6.out.cell1
  have d2 := hb6.out.cell2
  have d3 := hb6.out.cell3
  obtain ⟨k, ha⟩ : ∃ k, atGo es p = k := ⟨_, rfl⟩
  have hkl : k ≤ es.length := by rw [← ha]; exact atGo_le es p
  rcases boolOf (there es p) with hth | hth
  · rw [hth.out, ha]
    replace ha := Lib.hid ha
    by_cases h16 : es.length = 16
    · have h16b : ((es.length : Int) == 16) = true := by rw [h16]; rfl
      replace h16 := Lib.hid h16
      clear d0 d1 d2 d3
      go_wp2
      refine bodyPost_ret (v := .tuple #[.slice (some ⟨g3, 0, none⟩) es.length c3, .bool false]) (by simp [results, Tryd.results24, go_sem]) rfl ?_
      rw [treePut_ok hok.out, putL_full hth.out (by rw [h16.out]; exact Nat.le_refl _)]
      exact ⟨some ⟨g3, 0, none⟩, c3, rfl, (hR6.out.lower (by omega)).c, hC6⟩
    · have h16b : ((es.length : Int) == 16) = false := by simp; omega
      have h16c : ¬ 16 ≤ es.length := by have := (treeOk_is hok.out).len; omega
      clear h16
      have hins : ∃ W7, w6.alloc (.cells #[.string (mkB p), .int .i64 kind, .int .i64 mode, .string (mkB t)] 31) = W7 ∧ Calls Tryd.prog 57 #[.slice (some ⟨g3, 0, none⟩) es.length c3, .int .i64 k, .slice (some ⟨w6.heap.size, 0, none⟩) 1 1] W7 (InsPost es k ⟨p, kind, mode, t⟩ w2.heap.size g3 W7) ∧ Below w6.heap.size w6 W7 := 
        ⟨_, rfl, Insert_any es ⟨p, kind, mode, t⟩ w2.heap.size g3 c3 w6.heap.size k _ (hR6.out.below ((Below.refl _ _).alloc (Nat.le_refl _) _) hgl6) hlen (by have := hB3.size; have := hB4.size; have := hB5.size; have := hB6.size; simp; omega) hkl (Box4.new _ _ _ _ _ _) (by omega), (Below.refl _ _).alloc (Nat.le_refl _) _⟩
      replace hins := Lib.hid hins
      go_wp2_with fail
      obtain ⟨W7, hW7, hcall, hB7⟩ := hins.out
      rw [hW7]
      clear hW7
      refine hcall.mono ?_
      rintro r w8 ⟨g8, c8, rfl, hR8, hat8, hgr8⟩
      have hC7 := hC6.trans (hB7.mono hC6.size)
      have hC8 : Below w.heap.size w w8 := hC7.grown hgr8 hC7.size (fun q hq => by cases hq; omega)
      replace hR8 := Lib.hid hR8
      replace hgr8 := Lib.hid hgr8
      replace hat8 := Lib.hid hat8
      clear d0 d1 d2 d3
      go_wp2
      refine bodyPost_ret (v := .tuple #[.slice (some ⟨g8, 0, none⟩) (es.length + 1) c8, .bool true]) (by simp [results, Tryd.results24, go_sem]) rfl ?_
      rw [treePut_ok hok.out, putL_ins hen.out hpl.out hth.out ha.out h16c]
      exact ⟨some ⟨g8, 0, none⟩, c8, by rw [insE_length _ hkl], (hR8.out.lower (by omega)).c, hC8⟩
  · obtain ⟨hk0, -⟩ := there_iff.1 hth.out
    have hk : k < es.length := by omega
    have hkI : (k : Int) < (es.length : Int) := by omega
    clear hk0
    rw [hth.out, ha]
    replace ha := Lib.hid ha
    obtain ⟨c0, c1, c2, c3'⟩ := hE6.out.2 k hk
    by_cases hkd : es[k].kind = kind
    case neg =>
      have hkb : (es[k].kind != kind) = true := by simp [hkd]
      replace hkd := Lib.hid hkd
      go_wp2_with fail
      go_region
      all_goals go_wp2
      all_goals refine bodyPost_ret (v := .tuple #[.slice (some ⟨g3, 0, none⟩) es.length c3, .bool false]) (by simp [results, Tryd.results24, go_sem]) rfl ?_
      all_goals rw [treePut_ok hok.out, putL_kind hth.out ha.out hk hkd.out]
      all_goals exact ⟨some ⟨g3, 0, none⟩, c3, rfl, (hR6.out.lower (by omega)).c, hC6.drew⟩
    have hkb : (es[k].kind != kind) = false := by simp [hkd]
    replace hkd := Lib.hid hkd
    obtain ⟨r0, x0⟩ := hR6.out.parts.1.room (j := k * 4) (by omega)
    obtain ⟨r1, x1⟩ := hR6.out.parts.1.room (j := k * 4 + 1) (by omega)
    obtain ⟨r2, x2⟩ := hR6.out.parts.1.room (j := k * 4 + 2) (by omega)
    obtain ⟨r3, x3⟩ := hR6.out.parts.1.room (j := k * 4 + 3) (by omega)
    have f0 := hR6.out.parts.1.frozen (k * 4)
    have f1 := hR6.out.parts.1.frozen (k * 4 + 1)
    have f2 := hR6.out.parts.1.frozen (k * 4 + 2)
    have f3 := hR6.out.parts.1.frozen (k * 4 + 3)
    have hset := Lib.hid (hR6.out.parts.1.setAt ⟨p, kind, mode, t⟩ hk hnc3)
    go_wp2_with fail
    go_region
    all_goals go_wp2
    all_goals refine bodyPost_ret (v := .tuple #[.slice (some ⟨g3, 0, none⟩) es.length c3, .bool true]) (by simp [results, Tryd.results24, go_sem]) rfl ?_
    all_goals rw [treePut_ok hok.out, putL_set hen.out hpl.out hth.out ha.out hk hkd.out]
    all_goals exact ⟨some ⟨g3, 0, none⟩, c3, by rw [List.length_set], .inr ⟨g3, rfl, OwnR.of hset.out (by omega) (by rw [List.length_set]; exact hnc3) (by unfold maxLen; omega)⟩, ((((hC6.setCell (p := ⟨g3, k * 4, none⟩) (by simp; omega) _).setCell (p := ⟨g3, k * 4 + 1, none⟩) (by simp; omega) _).setCell (p := ⟨g3, k * 4 + 2, none⟩) (by simp; omega) _).setCell (p := ⟨g3, k * 4 + 3, none⟩) (by simp; omega) _).drew⟩
end Go.Proofs.YtjihpbioofikcaaDoor
