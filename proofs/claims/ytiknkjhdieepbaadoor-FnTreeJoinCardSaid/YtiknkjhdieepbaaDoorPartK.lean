/-
  Parts of trees, plainly.
-/
import Derived.Test.YtiknkjhdieepbaaDoorPutK
import Derived.Test.YtiknkjhdieepbaaDoorDropC
import Derived.Test.YtiknkjhdieepbaaDoorGlobP
namespace Go.Proofs.YtiknkjhdieepbaaDoor
open Go.RowKit
set_option linter.unusedVariables false
set_option linter.unusedSimpArgs false

/-- something below is chosen -/
def wanted (es : List En) (g : List UInt8) (e : En) : Bool := es.any (fun o => below e.path o.path && globHas g o.path)
noncomputable def treePart (es : List En) (g : List UInt8) : List En := if treeOk es = true then es.filter (wanted es g) else []
theorem treePart_bad {es : List En} {g : List UInt8} (h : treeOk es = false) : treePart es g = [] := by unfold treePart; rw [h]; rfl
theorem treePart_ok {es : List En} {g : List UInt8} (h : treeOk es = true) : treePart es g = es.filter (wanted es g) := by unfold treePart; rw [if_pos h]
theorem globHas_ok {g s : List UInt8} (h : globHas g s = true) : globOk g = true := by
  unfold globHas at h
  unfold globOk
  cases hg : globs g with
  | none => rw [hg] at h; cases h
  | some => rfl
theorem globHas_bad {g s : List UInt8} (h : globOk g = false) : globHas g s = false := by
  cases hb : globHas g s with
  | false => rfl
  | true => rw [globHas_ok hb] at h; cases h
theorem treePart_noglob {es : List En} {g : List UInt8} (h : globOk g = false) : treePart es g = [] := by
  unfold treePart
  split
  · rw [List.filter_eq_nil_iff]
    intro e he hw
    unfold wanted at hw
    rw [List.any_eq_true] at hw
    obtain ⟨o, ho, hb⟩ := hw
    rw [globHas_bad h] at hb
    simp at hb
  · rfl
theorem treePart_len (es : List En) (g : List UInt8) : (treePart es g).length ≤ es.length := by
  unfold treePart
  split
  · exact List.length_filter_le _ _
  · simp
/-- what has something below it is a dir -/
theorem dir_of_below {es : List En} (ht : treeOk es = true) {e o : En} (he : e ∈ es) (ho : o ∈ es) (hb : below e.path o.path = true) (hne : o.path ≠ e.path) : e.kind = 1 := by
  have hT := treeOk_is ht
  have key : ∀ (n : Nat) (o : En), o ∈ es → o.path.length ≤ n → below e.path o.path = true → o.path ≠ e.path → e.kind = 1 := by
    intro n
    induction n with
    | zero =>
      intro o ho hl hb hne
      rcases below_iff.1 hb with h | ⟨r, h⟩
      · exact absurd h hne
      · rw [h] at hl; simp at hl
    | succ n ih =>
      intro o ho hl hb hne
      rcases below_iff.1 hb with h | ⟨r, h⟩
      · exact absurd h hne
      · have hpl : placeOk es (upL o.path) = true := by
          obtain ⟨i, hi, rfl⟩ := List.getElem_of_mem ho
          exact hT.place i hi
        have hdir : ∀ q, upL o.path = q → q ≠ [] → ∃ y ∈ es, y.path = q ∧ y.kind = 1 := by
          intro q hq hq0
          rw [hq] at hpl
          unfold placeOk at hpl
          rw [Bool.or_eq_true] at hpl
          rcases hpl with h1 | h1
          · exact absurd (by simpa using h1) hq0
          · exact (dirAt_iff hT.sorted q).1 h1
        have hene : e.path ≠ [] := by
          obtain ⟨j, hj, rfl⟩ := List.getElem_of_mem he
          have := pathOk_len (entryOk_path (hT.ok j hj))
          intro h0
          rw [h0] at this; simp at this
        rcases split_last 47 r with hr | ⟨a, c, hc, rfl⟩
        · have hu : upL o.path = e.path := by rw [h, upL_at hr]
          obtain ⟨y, hy, hyp, hyk⟩ := hdir _ hu hene
          obtain ⟨i, hi, rfl⟩ := List.getElem_of_mem he
          obtain ⟨j, hj, rfl⟩ := List.getElem_of_mem hy
          have h1 := atGo_mem hT.sorted hi
          have h2 := atGo_mem hT.sorted hj
          rw [hyp] at h2
          have : i = j := by omega
          subst this
          exact hyk
        · have h' : o.path = (e.path ++ 47 :: a) ++ 47 :: c := by rw [h]; simp
          have hu : upL o.path = e.path ++ 47 :: a := by rw [h', upL_at hc]
          obtain ⟨y, hy, hyp, hyk⟩ := hdir _ hu (by simp)
          refine ih y hy ?_ ?_ ?_
          · have := congrArg List.length h'
            rw [hyp]; simp at this ⊢; omega
          · rw [hyp]; exact below_iff.2 (.inr ⟨a, rfl⟩)
          · rw [hyp]; intro h0
            have := congrArg List.length h0
            simp at this
  exact key _ o ho (Nat.le_refl _) hb hne
/-- what the reference asks of an entry -/
theorem wanted_spec {es : List En} (ht : treeOk es = true) (g : List UInt8) {e : En} (he : e ∈ es) : wanted es g e = (globHas g e.path || (e.kind == 1 && wanted es g e)) := by
  rw [Bool.eq_iff_iff, Bool.or_eq_true, Bool.and_eq_true]
  constructor
  · intro h
    have h' := h
    unfold wanted at h'
    rw [List.any_eq_true] at h'
    obtain ⟨o, ho, hb⟩ := h'
    rw [Bool.and_eq_true] at hb
    by_cases hne : o.path = e.path
    · left; rw [← hne]; exact hb.2
    · right
      exact ⟨by rw [dir_of_below ht he ho hb.1 hne]; rfl, h⟩
  · rintro (h | h)
    · unfold wanted
      rw [List.any_eq_true]
      exact ⟨e, he, by rw [below_refl, h]; rfl⟩
    · exact h.2
theorem wanted_has {es : List En} {g : List UInt8} {e : En} (he : e ∈ es) (h : globHas g e.path = true) : wanted es g e = true := by
  unfold wanted
  rw [List.any_eq_true]
  exact ⟨e, he, by rw [below_refl, h]; rfl⟩
theorem part_mem {es : List En} (ht : treeOk es = true) {g : List UInt8} {e : En} : e ∈ treePart es g ↔ e ∈ es ∧ wanted es g e = true := by
  rw [treePart_ok ht, List.mem_filter]
theorem part_sorted {es : List En} (ht : treeOk es = true) (g : List UInt8) : Sorted (treePart es g) := by
  rw [treePart_ok ht]
  exact up_sorted ((sorted_up (treeOk_is ht).sorted).sublist List.filter_sublist)
/-- is an entry of the tree in its part -/
theorem part_there {es : List En} (ht : treeOk es = true) (g : List UInt8) {e : En} (he : e ∈ es) : there (treePart es g) e.path = wanted es g e := by
  rw [Bool.eq_iff_iff, there_mem (part_sorted ht g)]
  constructor
  · rintro ⟨x, hx, hp⟩
    obtain ⟨h1, h2⟩ := (part_mem ht).1 hx
    have hs := (treeOk_is ht).sorted
    obtain ⟨i, hi, rfl⟩ := List.getElem_of_mem h1
    obtain ⟨j, hj, rfl⟩ := List.getElem_of_mem he
    have k1 := atGo_mem hs hi
    have k2 := atGo_mem hs hj
    rw [hp] at k1
    have : i = j := by omega
    subst this
    exact h2
  · intro h
    exact ⟨e, (part_mem ht).2 ⟨he, h⟩, rfl⟩
theorem part_ok {es : List En} (ht : treeOk es = true) (g : List UInt8) : treeOk (treePart es g) = true := by
  have hT := treeOk_is ht
  have hs := part_sorted ht g
  refine treeOk_yes ⟨Nat.le_trans (treePart_len es g) hT.len, ?_, hs, ?_⟩
  · intro i hi
    obtain ⟨h1, _⟩ := (part_mem ht).1 (List.getElem_mem hi)
    obtain ⟨j, hj, h2⟩ := List.getElem_of_mem h1
    rw [← h2]; exact hT.ok j hj
  · intro i hi
    obtain ⟨h1, hw⟩ := (part_mem ht).1 (List.getElem_mem hi)
    obtain ⟨j, hj, h2⟩ := List.getElem_of_mem h1
    have hpl := hT.place j hj
    rw [h2] at hpl
    have hpok := entryOk_path (hT.ok j hj)
    rw [h2] at hpok
    unfold placeOk at hpl ⊢
    rw [Bool.or_eq_true] at hpl ⊢
    rcases hpl with h3 | h3
    · exact .inl h3
    · right
      obtain ⟨y, hy, hyp, hyk⟩ := (dirAt_iff hT.sorted _).1 h3
      refine (dirAt_iff hs _).2 ⟨y, (part_mem ht).2 ⟨hy, ?_⟩, hyp, hyk⟩
      unfold wanted at hw ⊢
      rw [List.any_eq_true] at hw ⊢
      obtain ⟨o, ho, hb⟩ := hw
      rw [Bool.and_eq_true] at hb
      refine ⟨o, ho, ?_⟩
      rw [Bool.and_eq_true]
      refine ⟨?_, hb.2⟩
      rw [hyp]
      have hyne : upL ((treePart es g)[i]).path ≠ [] := by
        rw [← hyp]
        obtain ⟨j2, hj2, rfl⟩ := List.getElem_of_mem hy
        have := pathOk_len (entryOk_path (hT.ok j2 hj2))
        intro h0
        rw [h0] at this; simp at this
      exact below_trans (below_up hyne (below_refl _)) hb.1
theorem part_again {es : List En} (ht : treeOk es = true) (g : List UInt8) : treePart (treePart es g) g = treePart es g := by
  rw [treePart_ok (part_ok ht g)]
  rw [List.filter_eq_self]
  intro e he
  obtain ⟨h1, hw⟩ := (part_mem ht).1 he
  unfold wanted at hw ⊢
  rw [List.any_eq_true] at hw ⊢
  obtain ⟨o, ho, hb⟩ := hw
  have hb2 := hb
  rw [Bool.and_eq_true] at hb2
  exact ⟨o, (part_mem ht).2 ⟨ho, wanted_has ho hb2.2⟩, hb⟩
theorem meets_all (ps : List Pt) : ∀ ns, meets [⟨true, ps⟩] ns = true
  | [] => rfl
  | n :: t => by rw [meets_many_cons, meets_all ps t]; simp
theorem globs_all : globs [42, 42] = some [⟨true, [.star, .star]⟩] := rfl
theorem globHas_all (s : List UInt8) : globHas [42, 42] s = pathOk s := by
  unfold globHas
  rw [globs_all]
  simp only [meets_all, Bool.and_true]
theorem part_all {es : List En} (ht : treeOk es = true) : treePart es [42, 42] = es := by
  rw [treePart_ok ht, List.filter_eq_self]
  intro e he
  refine wanted_has he ?_
  rw [globHas_all]
  obtain ⟨j, hj, rfl⟩ := List.getElem_of_mem he
  exact entryOk_path ((treeOk_is ht).ok j hj)
end Go.Proofs.YtiknkjhdieepbaaDoor
