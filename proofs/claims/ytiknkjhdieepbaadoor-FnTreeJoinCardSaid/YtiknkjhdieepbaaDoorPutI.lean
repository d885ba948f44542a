/-
  The walk of the program's TreePut.
-/
import Derived.Test.YtiknkjhdieepbaaDoorInsE
namespace Go.Proofs.YtiknkjhdieepbaaDoor
open Go.RowKit
set_option linter.unusedVariables false
set_option linter.unusedSimpArgs false
attribute [local go_sem] mkB_size mkB_extract mkB_get mkB_append mkB_append_raw raw_append_mkB mkB_toList

/-- entries of the call's own were handed back -/
def CloneR (es : List En) (w : World) (r : Ending) (w' : World) : Prop := ∃ g c, r = .returned (.slice (some ⟨g, 0, none⟩) es.length c) ∧ OwnR w' w.heap.size g c es ∧ Below w.heap.size w w'
set_option maxRecDepth 1000000 in
set_option maxHeartbeats 4000000 in
theorem Clone_own (es : List En) (g c : Nat) (w : World) (hE : Ents w g es) (hlen : es.length ≤ 1048576) :
    Calls Tryd.prog 16 #[.slice (some ⟨g, 0, none⟩) es.length c] w (CloneR es w) := by
  have hflat := Lib.hid ((hE.alloc (.cells #[] 30)).flat)
  have hfl := flatE_length es
  have hone := Lib.hid (flatE_one es)
  have hown0 := Lib.hid (World.ownsRow_made (base := w.heap.size) (e := 30) (size := 4) w #[] 0 (Nat.le_refl _) (by simp [maxLen]) rfl)
  clear hE
  obtain ⟨i0, hi, hz0, hz1, hz2⟩ := info_parts infoE
  replace hi := Lib.hid hi
  replace hz0 := Lib.hid hz0
  replace hz1 := Lib.hid hz1
  replace hz2 := Lib.hid hz2
  replace hfl := Lib.hid hfl
  have h63 : 0 + es.length ≤ maxLen := by unfold maxLen; omega
  have hby : (0 + es.length) * 48 ≤ 140737488355328 := by omega
  have hbs : w.heap.size ≤ (w.alloc (.cells #[] 30)).heap.size := by simp
  have hnl : ∀ W, (binOp .eql 23 (.slice (some ⟨g, 0, none⟩) es.length c) (.slice none 0 0)).run Tryd.prog W = .ok (.bool false) W := fun W => Lib.run_eql_slice_nil W _ _ _ _ _ _ _ Tryd.underlying23
  go_enter Tryd.func16, Tryd.ntmps16
  go_wp2_with (at_builtin; go_loud (refine wpList_append_own _ rfl _ _ _ rfl w.heap.size 30 i0 _ 4 48 Tryd.underlying23 hi.out hz0.out hz1.out hz2.out rfl (by decide) _ 0 [] rfl hown0.out ⟨g, 0, none⟩ es.length c (flatE es) rfl hfl.out hflat.out hone.out h63 hby hbs ?_); intro v' w1 hown hgr hnil)
  rw [Nat.zero_add, List.nil_append] at hown
  have hne : v' ≠ .slice none 0 0 := fun e => by have := (hnil.1 e).1; cases this
  obtain ⟨g', cap, rfl, hg', hc', hm'⟩ := own_form hown hne
  have hR : OwnR w1 w.heap.size g' cap es := hown
  have hB : Below w.heap.size w w1 := ((Below.refl _ _).alloc (Nat.le_refl _) _).grown hgr (by simp) (fun k e => by cases e; exact Nat.le_refl _)
  clear hown hgr hnil hne
  replace hR := Lib.hid hR
  go_wp2
  go_ret
  exact ⟨g', cap, rfl, hR.out, hB⟩
set_option maxRecDepth 1000000 in
set_option maxHeartbeats 4000000 in
theorem l2Copy_own (es : List En) (g c : Nat) (w : World) (hE : Ents w g es) (hlen : es.length ≤ 1048576) :
    Calls Tryd.prog 23 #[.slice (some ⟨g, 0, none⟩) es.length c] w (CloneR es w) := by
  have hflat := Lib.hid ((hE.alloc (.cells #[] 30)).flat)
  have hfl := flatE_length es
  have hone := Lib.hid (flatE_one es)
  have hown0 := Lib.hid (World.ownsRow_made (base := w.heap.size) (e := 30) (size := 4) w #[] 0 (Nat.le_refl _) (by simp [maxLen]) rfl)
  clear hE
  obtain ⟨i0, hi, hz0, hz1, hz2⟩ := info_parts infoE
  replace hi := Lib.hid hi
  replace hz0 := Lib.hid hz0
  replace hz1 := Lib.hid hz1
  replace hz2 := Lib.hid hz2
  replace hfl := Lib.hid hfl
  have h63 : 0 + es.length ≤ maxLen := by unfold maxLen; omega
  have hby : (0 + es.length) * 48 ≤ 140737488355328 := by omega
  have hbs : w.heap.size ≤ (w.alloc (.cells #[] 30)).heap.size := by simp
  go_enter Tryd.func23, Tryd.ntmps23
  go_wp2_with (at_builtin; go_loud (refine wpList_append_own _ rfl _ _ _ rfl w.heap.size 30 i0 _ 4 48 Tryd.underlying23 hi.out hz0.out hz1.out hz2.out rfl (by decide) _ 0 [] rfl hown0.out ⟨g, 0, none⟩ es.length c (flatE es) rfl hfl.out hflat.out hone.out h63 hby hbs ?_); intro v' w1 hown hgr hnil)
  rw [Nat.zero_add, List.nil_append] at hown
  have hne : v' ≠ .slice none 0 0 := fun e => by have := (hnil.1 e).1; cases this
  obtain ⟨g', cap, rfl, hg', hc', hm'⟩ := own_form hown hne
  have hR : OwnR w1 w.heap.size g' cap es := hown
  have hB : Below w.heap.size w w1 := ((Below.refl _ _).alloc (Nat.le_refl _) _).grown hgr (by simp) (fun k e => by cases e; exact Nat.le_refl _)
  clear hown hgr hnil hne
  replace hR := Lib.hid hR
  go_wp2
  go_ret
  exact ⟨g', cap, rfl, hR.out, hB⟩
/-- entries of the call's own and a word were handed back, in a block -/
def ResN (x : List En × Bool) (w : World) (r : Ending) (w' : World) : Prop := ∃ g c, r = .returned (.tuple #[.slice (some ⟨g, 0, none⟩) x.1.length c, .bool x.2]) ∧ OwnR w' w.heap.size g c x.1 ∧ Below w.heap.size w w'
theorem OwnR.own {w : World} {lo g c : Nat} {es : List En} (h : OwnR w lo g c es) : OwnE w lo (some ⟨g, 0, none⟩) es := .inr ⟨g, c, rfl, h.parts.2.1, h.parts.2.2.1, h.parts.1⟩
theorem OwnR.lower {w : World} {lo lo' g c : Nat} {es : List En} (h : OwnR w lo g c es) (hl : lo' ≤ lo) : OwnR w lo' g c es := OwnR.of h.parts.1 (Nat.le_trans hl h.parts.2.1) h.parts.2.2.1 h.parts.2.2.2
/-- one entry is written -/
theorem RowE.setAt {w : World} {g m k : Nat} {es : List En} (h : RowE w g m es.length es) (e : En) (hk : k < es.length) (hm : es.length ≤ m) :
    RowE ((((w.setCell ⟨g, k * 4, none⟩ (.string (mkB e.path))).setCell ⟨g, k * 4 + 1, none⟩ (.int .i64 e.kind)).setCell ⟨g, k * 4 + 2, none⟩ (.int .i64 e.mode)).setCell ⟨g, k * 4 + 3, none⟩ (.string (mkB e.text))) g m (es.set k e).length (es.set k e) := by
  obtain ⟨cur, hh, hs, hc⟩ := h
  refine ⟨_, heap_set (heap_set (heap_set (heap_set hh))), by simp [hs], fun i hi _ => ?_⟩
  simp only [List.length_set] at hi
  simp only [Array.getElem?_setIfInBounds, Array.size_setIfInBounds, hs]
  by_cases hik : k = i
  · subst hik
    rw [List.getElem_set_self]
    refine ⟨?_, ?_, ?_, ?_⟩
    · rw [if_neg (by omega), if_neg (by omega), if_neg (by omega), if_pos rfl, if_pos (by omega)]
    · rw [if_neg (by omega), if_neg (by omega), if_pos rfl, if_pos (by omega)]
    · rw [if_neg (by omega), if_pos rfl, if_pos (by omega)]
    · rw [if_pos rfl, if_pos (by omega)]
  · rw [List.getElem_set_ne hik]
    obtain ⟨c0, c1, c2, c3⟩ := hc i hi hi
    refine ⟨?_, ?_, ?_, ?_⟩
    · rw [if_neg (by omega), if_neg (by omega), if_neg (by omega), if_neg (by omega)]; exact c0
    · rw [if_neg (by omega), if_neg (by omega), if_neg (by omega), if_neg (by omega)]; exact c1
    · rw [if_neg (by omega), if_neg (by omega), if_neg (by omega), if_neg (by omega)]; exact c2
    · rw [if_neg (by omega), if_neg (by omega), if_neg (by omega), if_neg (by omega)]; exact c3
theorem pathUp_ok {p : List UInt8} (h : pathOk p = true) : pathUp p = upL p := by unfold pathUp; rw [if_pos h]

end Go.Proofs.YtiknkjhdieepbaaDoor
