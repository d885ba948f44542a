/-
  The reference's text of a tree.
-/
import Derived.Test.YtgokdcdicddccaaDoorLineS
namespace Go.Proofs.YtgokdcdicddccaaDoor
open Go.RowKit
set_option linter.unusedVariables false
set_option linter.unusedSimpArgs false
attribute [local go_sem] mkB_size mkB_extract mkB_get mkB_append mkB_append_raw raw_append_mkB mkB_toList

theorem linesE_next {es : List En} {k : Nat} (hk : k < es.length) : linesE (es.take (k + 1)) = linesE (es.take k) ++ lineE es[k] := by
  unfold linesE
  rw [List.take_succ_eq_append_getElem hk, List.flatMap_append]
  simp
theorem lineE_len {e : En} (h : Liney e) : (lineE e).length ≤ 2100000 := by
  obtain ⟨h0, h1, h2, h3, h4⟩ := h
  have hd1 := dd_short e.mode.toNat (by omega)
  unfold lineE
  split
  · simp only [List.length_append, List.length_cons, List.length_nil]; omega
  · rename_i ha
    split
    · simp only [List.length_append, List.length_cons, List.length_nil]; omega
    · rename_i hb
      have hd2 := dd_short e.text.length (h4 ha hb)
      simp only [List.length_append, List.length_cons, List.length_nil]; omega
theorem linesE_len {es : List En} (h : ∀ i (hi : i < es.length), Liney es[i]) : ∀ k, k ≤ es.length → (linesE (es.take k)).length ≤ k * 2100000
  | 0, _ => by simp [linesE]
  | k + 1, hk => by
    have := linesE_len h k (by omega)
    have := lineE_len (h k (by omega))
    rw [linesE_next (by omega), List.length_append]
    omega
theorem text_short {l : List UInt8} (h : fileTextOk l = true) : l.length ≤ 80 := by
  unfold fileTextOk at h
  rw [Bool.and_eq_true] at h
  simpa using h.1
theorem liney_of {e : En} (h : entryOk e = true) (hp : e.path.length ≤ 1048576) (ht : e.text.length ≤ 1048576) : Liney e ∧ (e.kind = 1 ∨ e.kind = 2 ∨ e.kind = 3) := by
  have hm : 0 ≤ e.mode ∧ e.mode ≤ 7 := by
    by_cases hm : 0 ≤ e.mode ∧ e.mode ≤ 7
    · exact hm
    · rw [entryOk_mode (inI_no (by omega))] at h
      cases h
  have hk : e.kind = 1 ∨ e.kind = 2 ∨ e.kind = 3 := by
    by_cases h1 : e.kind = 1
    · exact .inl h1
    by_cases h2 : e.kind = 2
    · exact .inr (.inl h2)
    by_cases h3 : e.kind = 3
    · exact .inr (.inr h3)
    rw [entryOk_none h1 h2 h3] at h
    cases h
  refine ⟨⟨hm.1, hm.2, hp, ht, fun h1 h3 => ?_⟩, hk⟩
  have h2 : e.kind = 2 := by omega
  rw [entryOk_file (entryOk_path h) (inI_yes hm.1 hm.2) h2] at h
  have := text_short h
  omega
theorem liney_tree {es : List En} (h : treeOk es = true) (hsm : Small es) : ∀ i (hi : i < es.length), Liney es[i] ∧ (es[i].kind = 1 ∨ es[i].kind = 2 ∨ es[i].kind = 3) := fun i hi =>
  liney_of ((treeOk_is h).ok i hi) (hsm.2 i hi).1 (hsm.2 i hi).2

set_option maxRecDepth 1000000 in
set_option maxHeartbeats 4000000 in
theorem l2Lines_any (es : List En) (g c : Nat) (w : World) (hE : Ents w g es) (hlen : es.length ≤ 1048576) (hl : ∀ i (hi : i < es.length), Liney es[i]) :
    Calls Tryd.prog 29 #[.slice (some ⟨g, 0, none⟩) es.length c] w fun r w' => r = .returned (.string (mkB (linesE es))) ∧ Below w.heap.size w w' := by
  have hEh := Lib.hid hE
  have hg := hE.1
  replace hl := Lib.hid hl
  clear hE
  go_enter Tryd.func29, Tryd.ntmps29
  go_wp2
  go_loopw [3, 4] (fun out ii wr => ∃ k : Nat, k ≤ es.length ∧ ii = .int .i64 k ∧ out = .string (mkB (linesE (es.take k))) ∧ Below w.heap.size w wr) (fun _ ii _ => es.length - (intOf ii).toNat)
  case atStart => exact ⟨0, Nat.zero_le _, rfl, by simp [linesE, mkB], Below.refl _ _⟩
  case round =>
    obtain ⟨k, hk, rfl, rfl, hB⟩ := hrel
    by_cases hlt : k < es.length
    · obtain ⟨d0, d1, d2, d3⟩ := (hEh.out.below hB hg).2 k hlt
      have hkI : (k : Int) < (es.length : Int) := by omega
      have hnx := linesE_next hlt
      have hL := linesE_len hl.out k hk
      have hM := lineE_len (hl.out k hlt)
      have hcl := fun W => l2Line_any es[k] (hl.out k hlt) W
      obtain ⟨L, hLL⟩ : ∃ L, linesE (es.take k) = L := ⟨_, rfl⟩
      obtain ⟨M, hMM⟩ : ∃ M, lineE es[k] = M := ⟨_, rfl⟩
      rw [hLL] at hL hnx
      rw [hMM] at hM hnx
      rw [hLL]
      simp only [hMM] at hcl
      clear hLL hMM
      replace hnx := Lib.hid hnx
      replace hcl := Lib.hid hcl
      go_wp2_with (go_at_call 41; refine (hcl.out _).mono ?_; rintro r w2 ⟨rfl, hB2⟩)
      go_round
      case rel => exact ⟨k + 1, by omega, by go_num, by rw [hnx.out], hB.trans (hB2.mono hB.size)⟩
      case measure => simp [intOf]; omega
    · obtain rfl : k = es.length := by omega
      have hfl : linesE (es.take es.length) = linesE es := by rw [List.take_length]
      rw [hfl]
      clear hfl
      go_wp2
      go_ret
      exact ⟨rfl, hB⟩

theorem treeText_bad {es : List En} (h : treeOk es = false) : treeText es = [] := by unfold treeText; rw [h]; rfl
theorem treeText_good {es : List En} (h : treeOk es = true) : treeText es = linesE es := by unfold treeText; rw [h]; rfl
set_option maxRecDepth 1000000 in
set_option maxHeartbeats 4000000 in
theorem specTreeText_any (es : List En) (g c : Nat) (w : World) (hE : Ents w g es) (hsm : Small es) :
    Calls Tryd.prog 17 #[.slice (some ⟨g, 0, none⟩) es.length c] w fun r w' => r = .returned (.string (mkB (treeText es))) ∧ Below w.heap.size w w' := by
  have hEh := Lib.hid hE
  have hsh := Lib.hid hsm
  have hg := hE.1
  have hlen := hsm.1
  clear hE hsm
  rcases boolOf (treeOk es) with hok | hok
  · rw [treeText_bad hok.out]
    go_enter Tryd.func17, Tryd.ntmps17
    go_wp2_with fail
    refine (specTreeOk_any es g c _ hEh.out hsh.out).mono ?_
    rintro r w2 ⟨rfl, hB⟩
    rw [hok.out]
    go_wp2
    go_ret
    exact ⟨rfl, hB⟩
  · rw [treeText_good hok.out]
    have hl := Lib.hid (fun i hi => (liney_tree hok.out hsh.out i hi).1)
    go_enter Tryd.func17, Tryd.ntmps17
    go_wp2_with fail
    refine (specTreeOk_any es g c _ hEh.out hsh.out).mono ?_
    rintro r w2 ⟨rfl, hB⟩
    rw [hok.out]
    have hE2 := Lib.hid (hEh.out.below hB hg)
    go_wp2_with fail
    refine (l2Lines_any es g c _ hE2.out hlen hl.out).mono ?_
    rintro r w3 ⟨rfl, hB3⟩
    have hB4 := hB.trans (hB3.mono hB.size)
    clear hB3
    go_wp2
    go_ret
    exact ⟨rfl, hB4⟩
end Go.Proofs.YtgokdcdicddccaaDoor
