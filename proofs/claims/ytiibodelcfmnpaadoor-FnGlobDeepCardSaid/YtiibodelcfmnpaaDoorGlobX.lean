/-
  The walk of the reference's GlobHas.
-/
import Derived.Test.YtiibodelcfmnpaaDoorGlobW
namespace Go.Proofs.YtiibodelcfmnpaaDoor
open Go.RowKit
set_option linter.unusedVariables false
set_option linter.unusedSimpArgs false
attribute [local go_sem] mkB_size mkB_extract mkB_get mkB_toList

theorem globOk_parts {g : List UInt8} (h : globOk g = true) : ∃ ps, globs g = some ps ∧ globAll (cut 47 g) = some ps ∧ g.length ≤ 40 ∧ (cut 47 g).length ≤ 5 := by
  unfold globOk at h
  cases hg : globs g with
  | none => rw [hg] at h; cases h
  | some ps =>
    refine ⟨ps, rfl, ?_⟩
    unfold globs at hg
    split at hg
    · rename_i h1
      split at hg
      · rename_i h2
        exact ⟨hg, h1, h2⟩
      · cases hg
    · cases hg
theorem globHas_no {g s : List UInt8} (h : globOk g = false) : globHas g s = false := by
  unfold globOk at h
  unfold globHas
  cases hg : globs g with
  | none => rfl
  | some x => rw [hg] at h; cases h
theorem globHas_path {g s : List UInt8} (h : pathOk s = false) : globHas g s = false := by
  unfold globHas
  split
  · rw [h]; rfl
  · rfl
theorem globHas_is {g s : List UInt8} {ps : List Gn} (h : globs g = some ps) (hs : pathOk s = true) : globHas g s = meets ps (cut 47 s) := by
  unfold globHas
  rw [h]
  simp only
  rw [hs]; rfl
theorem strs_own {W : World} {lo g cap : Nat} {l : List (List UInt8)} (h : W.ownsRow lo 9 1 (.slice (some ⟨g, 0, none⟩) l.length cap) l.length (l.map strV)) : StrsAt W g 0 l := fun i hi => by
  have := strs_cell h i hi
  rwa [Nat.zero_add]
theorem short_cut {l : List UInt8} (hl : l.length ≤ 1048576) : Short (cut 47 l) := fun x hx => Nat.le_trans (cut_mem_length hx) hl
theorem own_cap {W : World} {lo g c k : Nat} {e : TypeId} {xs : List Value} (h : W.ownsRow lo e 1 (.slice (some ⟨g, 0, none⟩) k c) k xs) : k ≤ c ∧ g < W.heap.size := by
  obtain ⟨_, h | ⟨g', cap', cur, hv, hb, hh, hnc, hm, hs, ht⟩⟩ := h
  · cases h.1
  · cases hv
    exact ⟨hnc, (Array.getElem?_eq_some_iff.1 hh).1⟩
set_option maxRecDepth 1000000 in
set_option maxHeartbeats 4000000 in
theorem specGlobHas_any (l s : List UInt8) (hl : l.length ≤ 1048576) (hs : s.length ≤ 1048576) (w : World) :
    Calls Tryd.prog 17 #[.string (mkB l), .string (mkB s)] w fun e w' => e = .returned (.bool (globHas l s)) ∧ Below w.heap.size w w' := by
  rcases boolOf (globOk l) with h1 | h1
  · rw [globHas_no h1.out]
    go_enter Tryd.func17, Tryd.ntmps17
    go_wp2_with fail
    refine (specGlobOk_any l hl _).mono ?_
    rintro e w1 ⟨rfl, hB⟩
    rw [h1.out]
    go_wp2
    go_ret
    exact ⟨rfl, hB⟩
  rcases boolOf (pathOk s) with h2 | h2
  · rw [globHas_path h2.out]
    go_enter Tryd.func17, Tryd.ntmps17
    go_wp2_with fail
    refine (specGlobOk_any l hl _).mono ?_
    rintro e w1 ⟨rfl, hB⟩
    rw [h1.out]
    go_wp2_with fail
    refine (l1Path_any s (by omega) _).mono ?_
    rintro e w2 ⟨rfl, hB2⟩
    rw [h2.out]
    go_wp2
    go_ret
    exact ⟨rfl, hB.trans (hB2.mono hB.size)⟩
  obtain ⟨ps, hg, hall, h40, h5⟩ := globOk_parts h1.out
  rw [globHas_is hg h2.out]
  have hcs := cut_sum 47 s
  replace hg := Lib.hid hg
  replace hall := Lib.hid hall
  replace hcs := Lib.hid hcs
  go_enter Tryd.func17, Tryd.ntmps17
  go_wp2_with fail
  refine (specGlobOk_any l hl _).mono ?_
  rintro e w1 ⟨rfl, hB⟩
  rw [h1.out]
  go_wp2_with fail
  refine (l1Path_any s (by omega) _).mono ?_
  rintro e w2 ⟨rfl, hB2⟩
  rw [h2.out]
  replace hB2 := hB.trans (hB2.mono hB.size)
  go_wp2_with fail
  refine (l1Cut_any l 47 (by omega) _).mono ?_
  rintro e w3 ⟨v, rfl, hown, hB3⟩
  obtain ⟨g, cap, rfl⟩ := cut_form hown
  have hG := strs_own hown
  obtain ⟨hcap, hgl⟩ := own_cap hown
  have hB3' := hB2.trans (hB3.mono hB2.size)
  replace hG := Lib.hid hG
  clear hown hB3
  go_wp2_with fail
  refine (l1Cut_any s 47 (by omega) _).mono ?_
  rintro e w4 ⟨v, rfl, hown, hB4⟩
  obtain ⟨g2, cap2, rfl⟩ := cut_form hown
  have hS := Lib.hid (strs_own hown)
  obtain ⟨hcap2, hgl2⟩ := own_cap hown
  have hG4 := Lib.hid (hG.out.below hB4 hgl)
  have hB4' := hB3'.trans (hB4.mono hB3'.size)
  clear hown hB4
  go_wp2_with fail
  refine (l1Match_any 1048582 (cut 47 l) (cut 47 s) ps g 0 cap g2 0 cap2 _ _ _ rfl rfl (by have := hcs.out; omega) hcap hcap2 (by omega) (short_cut hl) (short_cut hs) hG4.out hS.out hall.out).mono ?_
  rintro e w5 ⟨rfl, n, hw⟩
  replace hw := Lib.hid hw
  go_wp2
  go_ret
  exact ⟨rfl, by rw [hw.out]; exact hB4'.trans ⟨rfl, rfl, rfl, Nat.le_refl _, fun _ _ => rfl⟩⟩
end Go.Proofs.YtiibodelcfmnpaaDoor
