/-
  Putting keeps a tree a tree, plainly.
-/
import Derived.Test.YtiknkjhdieepbaaDoorFollowP
import Derived.Test.YtiknkjhdieepbaaDoorMoveP
namespace Go.Proofs.YtiknkjhdieepbaaDoor
open Go.RowKit
set_option linter.unusedVariables false
set_option linter.unusedSimpArgs false

theorem dirAt_iff {es : List En} (hs : Sorted es) (q : List UInt8) : dirAt es q = true ↔ ∃ x ∈ es, x.path = q ∧ x.kind = 1 := by
  constructor
  · intro h
    unfold dirAt at h
    split at h
    · rename_i y hy
      simp only [Bool.and_eq_true, beq_iff_eq] at h
      exact ⟨y, List.mem_of_getElem? hy, h⟩
    · cases h
  · rintro ⟨x, hx, rfl, hk⟩
    obtain ⟨i, hi, rfl⟩ := List.getElem_of_mem hx
    unfold dirAt
    rw [atGo_mem hs hi, List.getElem?_eq_getElem hi]
    simp [hk]
theorem placeOk_mono {a b : List En} (ha : Sorted a) (hb : Sorted b) (h : ∀ x ∈ a, x.kind = 1 → ∃ y ∈ b, y.path = x.path ∧ y.kind = 1) {q : List UInt8} (hp : placeOk a q = true) : placeOk b q = true := by
  unfold placeOk at hp ⊢
  rw [Bool.or_eq_true] at hp ⊢
  rcases hp with hp | hp
  · exact .inl hp
  · right
    obtain ⟨x, hx, hq, hk⟩ := (dirAt_iff ha q).1 hp
    obtain ⟨y, hy, h1, h2⟩ := h x hx hk
    exact (dirAt_iff hb q).2 ⟨y, hy, by rw [h1, hq], h2⟩
theorem set_sorted {es : List En} {e : En} {k : Nat} (hs : Sorted es) (hk : k < es.length) (he : es[k].path = e.path) : Sorted (es.set k e) := by
  intro i hi
  rw [List.length_set] at hi
  have h := hs i hi
  rw [List.getElem_set, List.getElem_set]
  split
  · split
    · omega
    · rename_i h1 h2; subst h1; rw [← he]; exact h
  · split
    · rename_i h1 h2; rw [← he]; simp only [h2]; exact h
    · exact h
/-- what TreePut answers of a tree, when it takes the entry -/
theorem putL_ok {es fs : List En} {e : En} (ht : treeOk es = true) (h : putL es e = (fs, true)) : treeOk fs = true ∧ entryOk e = true ∧ (∀ x, x ∈ fs ↔ x = e ∨ (x ∈ es ∧ x.path ≠ e.path)) ∧ fs.length ≤ es.length + 1 := by
  have hT := treeOk_is ht
  have hs := hT.sorted
  have hlen := hT.len
  unfold putL at h
  split at h
  · rename_i hc
    rw [Bool.and_eq_true] at hc
    obtain ⟨heok, hpl⟩ := hc
    have key : ∀ fs, Sorted fs → fs.length ≤ 16 → (∀ x, x ∈ fs ↔ x = e ∨ (x ∈ es ∧ x.path ≠ e.path)) → (∀ x ∈ es, x.path = e.path → x.kind = e.kind) → treeOk fs = true := by
      intro fs hf hl hm hk
      have hmono : ∀ x ∈ es, x.kind = 1 → ∃ y ∈ fs, y.path = x.path ∧ y.kind = 1 := by
        intro x hx hx1
        by_cases hxe : x.path = e.path
        · exact ⟨e, (hm e).2 (.inl rfl), hxe.symm, by rw [← hk x hx hxe]; exact hx1⟩
        · exact ⟨x, (hm x).2 (.inr ⟨hx, hxe⟩), rfl, hx1⟩
      refine treeOk_yes ⟨hl, ?_, hf, ?_⟩
      · intro i hi
        rcases (hm _).1 (List.getElem_mem hi) with h1 | ⟨h1, _⟩
        · rw [h1]; exact heok
        · obtain ⟨j, hj, h2⟩ := List.getElem_of_mem h1
          rw [← h2]; exact hT.ok j hj
      · intro i hi
        refine placeOk_mono hs hf hmono ?_
        rcases (hm _).1 (List.getElem_mem hi) with h1 | ⟨h1, _⟩
        · rw [h1]; exact hpl
        · obtain ⟨j, hj, h2⟩ := List.getElem_of_mem h1
          rw [← h2]; exact hT.place j hj
    split at h
    · rename_i hth
      obtain ⟨hk, hp⟩ := there_iff.1 hth
      split at h
      · rename_i hkd
        rw [kindAt_is hk] at hkd
        cases h
        have hsm : ∀ x, x ∈ es.set (atGo es e.path) e ↔ x = e ∨ (x ∈ es ∧ x.path ≠ e.path) := by
          intro x
          constructor
          · intro hx
            obtain ⟨i, hi, rfl⟩ := List.getElem_of_mem hx
            rw [List.length_set] at hi
            rw [List.getElem_set]
            split
            · exact .inl rfl
            · rename_i hne
              refine .inr ⟨List.getElem_mem hi, fun hx2 => ?_⟩
              have := atGo_mem hs hi
              rw [hx2] at this
              exact hne this
          · rintro (rfl | ⟨hx, hne⟩)
            · exact List.mem_iff_getElem.2 ⟨_, by rw [List.length_set]; exact hk, List.getElem_set_self (by rw [List.length_set]; exact hk)⟩
            · obtain ⟨i, hi, rfl⟩ := List.getElem_of_mem hx
              have hik : atGo es e.path ≠ i := by rintro rfl; exact hne hp
              rw [List.mem_iff_getElem]
              exact ⟨i, by rw [List.length_set]; exact hi, by rw [List.getElem_set, if_neg hik]⟩
        refine ⟨key _ (set_sorted hs hk hp) (by rw [List.length_set]; exact hlen) hsm ?_, heok, hsm, by rw [List.length_set]; omega⟩
        intro x hx hxe
        obtain ⟨i, hi, rfl⟩ := List.getElem_of_mem hx
        have := atGo_mem hs hi
        rw [hxe] at this
        subst this
        exact hkd
      · cases h
    · rename_i hth
      split at h
      · cases h
      · rename_i hl16
        cases h
        have hno : there es e.path = false := by simpa using hth
        have hmem : ∀ x, x ∈ insE es (atGo es e.path) e ↔ x = e ∨ (x ∈ es ∧ x.path ≠ e.path) := by
          intro x
          rw [(insE_perm es _ e).mem_iff, List.mem_cons]
          constructor
          · rintro (h1 | h1)
            · exact .inl h1
            · refine .inr ⟨h1, fun h2 => ?_⟩
              rw [(there_mem hs _).2 ⟨x, h1, h2⟩] at hno
              cases hno
          · rintro (h1 | h1)
            · exact .inl h1
            · exact .inr h1.1
        have hil := insE_length e (atGo_le es e.path)
        refine ⟨key _ (insE_sorted hs hno) (by rw [hil]; omega) hmem ?_, heok, hmem, by rw [hil]; omega⟩
        intro x hx hxe
        rw [(there_mem hs _).2 ⟨x, hx, hxe⟩] at hno
        cases hno
  · cases h
theorem putL_false {es fs : List En} {e : En} (h : putL es e = (fs, false)) : fs = es := by
  unfold putL at h
  split at h
  · split at h
    · split at h
      · cases h
      · cases h; rfl
    · split at h
      · cases h; rfl
      · cases h
  · cases h; rfl
/-- a fresh link leads where its text leads -/
theorem link_follow {es fs : List En} {f s : List UInt8} (ht : treeOk es = true) (h : putL es ⟨f, 3, 0, s⟩ = (fs, true)) (hf : ∀ e ∈ es, e.path ≠ f ∧ e.text ≠ f) (hsf : s ≠ f) : treeOk fs = true ∧ treeFollow fs f = treeFollow es s := by
  obtain ⟨h1, h2, h3, h4⟩ := putL_ok ht h
  refine ⟨h1, ?_⟩
  rw [treeFollow_ok h1, treeFollow_ok ht]
  have hs := (treeOk_is ht).sorted
  have hs2 := (treeOk_is h1).sorted
  have hg : getAt fs f = some ⟨f, 3, 0, s⟩ := (getAt_is hs2).2 ⟨(h3 _).2 (.inl rfl), rfl⟩
  rw [follow_goOn, hg, goOn_link rfl, ← follow_goOn, follow_15 (treeOk_is ht).len s]
  refine (follow_same (f := f) (fun p hp => getAt_same hs hs2 (fun e => ?_)) (fun e he => (hf e he).2) hsf).symm
  rw [h3]
  constructor
  · rintro ⟨a, b⟩; exact ⟨.inr ⟨a, by rw [b]; exact hp⟩, b⟩
  · rintro ⟨a | a, b⟩
    · rw [a] at b; exact absurd b.symm hp
    · exact ⟨a.1, b⟩
end Go.Proofs.YtiknkjhdieepbaaDoor
