/-
  The walks of the copies of entries: l2Copy, slices.Clone.
-/
import Derived.Test.YtiknkjhdieepbaaDoorGF
import Derived.Lib.SliceRun
namespace Go.Proofs.YtiknkjhdieepbaaDoor
open Go.RowKit
set_option linter.unusedVariables false
set_option linter.unusedSimpArgs false
attribute [local go_sem] mkB_size mkB_extract mkB_get mkB_append mkB_append_raw raw_append_mkB mkB_toList

theorem own_form {w : World} {base size n : Nat} {e : TypeId} {v : Value} {xs : List Value} (h : w.ownsRow base e size v n xs) (hne : v ≠ .slice none 0 0) : ∃ g cap, v = .slice (some ⟨g, 0, none⟩) n cap ∧ base ≤ g ∧ n ≤ cap ∧ cap ≤ maxLen := by
  obtain ⟨_, h | ⟨g, cap, cur, hv, hb, _, hn, hm, _⟩⟩ := h
  · exact absurd h.1 hne
  · exact ⟨g, cap, hv, hb, hn, hm⟩
/-- entries of the call's own were handed back -/
def NewE (es : List En) (w : World) (r : Value) (w' : World) : Prop := ∃ g cap, r = .slice (some ⟨g, 0, none⟩) es.length cap ∧ w.heap.size ≤ g ∧ es.length ≤ cap ∧ RowE w' g cap es.length es ∧ Below w.heap.size w w'

set_option maxRecDepth 1000000 in
set_option maxHeartbeats 4000000 in
theorem l2Copy_any (es : List En) (g c : Nat) (w : World) (hE : Ents w g es) (hlen : es.length ≤ 1048576) :
    Calls Tryd.prog 23 #[.slice (some ⟨g, 0, none⟩) es.length c] w fun r w' => ∃ v, r = .returned v ∧ NewE es w v w' := by
  have hflat := Lib.hid ((hE.alloc (.cells #[] 30)).flat)
  have hfl := flatE_length es
  have hone := Lib.hid (flatE_one es)
  have hown0 := Lib.hid (World.ownsRow_made (base := w.heap.size) (e := 30) (size := 4) w #[] 0 (Nat.le_refl _) (by simp [maxLen]) rfl)
  clear hE
  obtain ⟨i0, hi, hz0, hz1, hz2⟩ := info_parts infoE
  replace hi := Lib.hid hi
  replace hz0 := Lib.hid hz0
  replace hz1 := Lib.hid hz1
  replace hz2 := Lib.hid hz2
  replace hfl := Lib.hid hfl
  have h63 : 0 + es.length ≤ maxLen := by unfold maxLen; omega
  have hby : (0 + es.length) * 48 ≤ 140737488355328 := by omega
  have hbs : w.heap.size ≤ (w.alloc (.cells #[] 30)).heap.size := by simp
  go_enter Tryd.func23, Tryd.ntmps23
  go_wp2_with (at_builtin; go_loud (refine wpList_append_own _ rfl _ _ _ rfl w.heap.size 30 i0 _ 4 48 Tryd.underlying23 hi.out hz0.out hz1.out hz2.out rfl (by decide) _ 0 [] rfl hown0.out ⟨g, 0, none⟩ es.length c (flatE es) rfl hfl.out hflat.out hone.out h63 hby hbs ?_); intro v' w1 hown hgr hnil)
  rw [Nat.zero_add, List.nil_append] at hown
  have hne : v' ≠ .slice none 0 0 := fun e => by have := (hnil.1 e).1; cases this
  obtain ⟨g', cap, rfl, hg', hc', hm'⟩ := own_form hown hne
  have hR := RowE.of_own hown
  have hB : Below w.heap.size w w1 := ((Below.refl _ _).alloc (Nat.le_refl _) _).grown hgr (by simp) (fun k e => by cases e; exact Nat.le_refl _)
  clear hown hgr hnil hne
  go_wp2
  go_ret
  exact ⟨_, rfl, g', cap, rfl, hg', hc', hR, hB⟩

set_option maxRecDepth 1000000 in
set_option maxHeartbeats 4000000 in
theorem Clone_any (es : List En) (g c : Nat) (w : World) (hE : Ents w g es) (hlen : es.length ≤ 1048576) :
    Calls Tryd.prog 16 #[.slice (some ⟨g, 0, none⟩) es.length c] w fun r w' => ∃ v, r = .returned v ∧ NewE es w v w' := by
  have hflat := Lib.hid ((hE.alloc (.cells #[] 30)).flat)
  have hfl := flatE_length es
  have hone := Lib.hid (flatE_one es)
  have hown0 := Lib.hid (World.ownsRow_made (base := w.heap.size) (e := 30) (size := 4) w #[] 0 (Nat.le_refl _) (by simp [maxLen]) rfl)
  clear hE
  obtain ⟨i0, hi, hz0, hz1, hz2⟩ := info_parts infoE
  replace hi := Lib.hid hi
  replace hz0 := Lib.hid hz0
  replace hz1 := Lib.hid hz1
  replace hz2 := Lib.hid hz2
  replace hfl := Lib.hid hfl
  have h63 : 0 + es.length ≤ maxLen := by unfold maxLen; omega
  have hby : (0 + es.length) * 48 ≤ 140737488355328 := by omega
  have hbs : w.heap.size ≤ (w.alloc (.cells #[] 30)).heap.size := by simp
  have hnl : ∀ W, (binOp .eql 23 (.slice (some ⟨g, 0, none⟩) es.length c) (.slice none 0 0)).run Tryd.prog W = .ok (.bool false) W := fun W => Lib.run_eql_slice_nil W _ _ _ _ _ _ _ Tryd.underlying23
  go_enter Tryd.func16, Tryd.ntmps16
  go_wp2_with (at_builtin; go_loud (refine wpList_append_own _ rfl _ _ _ rfl w.heap.size 30 i0 _ 4 48 Tryd.underlying23 hi.out hz0.out hz1.out hz2.out rfl (by decide) _ 0 [] rfl hown0.out ⟨g, 0, none⟩ es.length c (flatE es) rfl hfl.out hflat.out hone.out h63 hby hbs ?_); intro v' w1 hown hgr hnil)
  rw [Nat.zero_add, List.nil_append] at hown
  have hne : v' ≠ .slice none 0 0 := fun e => by have := (hnil.1 e).1; cases this
  obtain ⟨g', cap, rfl, hg', hc', hm'⟩ := own_form hown hne
  have hR := RowE.of_own hown
  have hB : Below w.heap.size w w1 := ((Below.refl _ _).alloc (Nat.le_refl _) _).grown hgr (by simp) (fun k e => by cases e; exact Nat.le_refl _)
  clear hown hgr hnil hne
  go_wp2
  go_ret
  exact ⟨_, rfl, g', cap, rfl, hg', hc', hR, hB⟩
end Go.Proofs.YtiknkjhdieepbaaDoor
