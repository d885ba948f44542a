/-
  Moving keeps a tree a tree, and moving back undoes it, plainly.
-/
import Derived.Test.YtjihpbioofikcaaDoorDropC
import Derived.Test.YtjihpbioofikcaaDoorMoveI
namespace Go.Proofs.YtjihpbioofikcaaDoor
open Go.RowKit
set_option linter.unusedVariables false
set_option linter.unusedSimpArgs false

theorem below_pre {p s : List UInt8} : below p s = true ↔ p ++ [47] <+: s ++ [47] := by
  rw [below_iff]
  constructor
  · rintro (rfl | ⟨r, rfl⟩)
    · exact List.prefix_refl _
    · exact ⟨r ++ [47], by simp⟩
  · rintro ⟨u, hu⟩
    rcases List.eq_nil_or_concat u with rfl | ⟨v, d, rfl⟩
    · rw [List.append_nil] at hu
      exact .inl (List.append_cancel_right hu).symm
    · rw [List.concat_eq_append, ← List.append_assoc] at hu
      exact .inr ⟨v, by rw [← (List.append_inj' hu rfl).1]; simp⟩
theorem below_comp {p q s : List UInt8} (h : below p s = true) (k : below q s = true) : below p q = true ∨ below q p = true := by
  rw [below_pre] at h k
  rcases List.prefix_or_prefix_of_prefix h k with h1 | h1
  · exact .inl (below_pre.2 h1)
  · exact .inr (below_pre.2 h1)
theorem below_drop {p s : List UInt8} (h : below p s = true) : s = p ++ s.drop p.length ∧ ∀ q, below q (q ++ s.drop p.length) = true := by
  rcases below_iff.1 h with rfl | ⟨r, rfl⟩
  · exact ⟨by simp, fun q => below_iff.2 (.inl (by simp))⟩
  · refine ⟨by simp, fun q => below_iff.2 (.inr ⟨r, by simp⟩)⟩
theorem not_below_up {f : List UInt8} (hf : f ≠ []) : below f (upL f) = false := by
  cases hb : below f (upL f) with
  | false => rfl
  | true =>
    exfalso
    rcases below_iff.1 hb with h | ⟨r, h⟩
    · have hu : upL f ≠ [] := by rw [h]; exact hf
      have := upL_lt hu
      rw [h, lt_irrefl] at this
      cases this
    · have h1 := upL_len f
      have h2 := congrArg List.length h
      simp at h2
      omega

/-- what is known of a move that is made -/
structure Mv (es : List En) (f t : List UInt8) : Prop where
  tree : treeOk es = true
  can : moveB es f t = true
  all : movesOk es f t = true
section
variable {es : List En} {f t : List UInt8}
theorem Mv.parts (h : Mv es f t) : there es f = true ∧ there es t = false ∧ pathOk t = true ∧ below f t = false ∧ placeOk es (upL t) = true := by
  have hm := h.can
  unfold moveB at hm
  simp only [Bool.and_eq_true, Bool.not_eq_true'] at hm
  obtain ⟨⟨⟨⟨h1, h2⟩, h3⟩, h4⟩, h5⟩ := hm
  exact ⟨h1, h2, h3, h4, h5⟩
theorem ok_path (ht : treeOk es = true) {e : En} (he : e ∈ es) : pathOk e.path = true := by
  obtain ⟨i, hi, rfl⟩ := List.getElem_of_mem he
  exact entryOk_path ((treeOk_is ht).ok i hi)
theorem path_ne {p : List UInt8} (h : pathOk p = true) : p ≠ [] := by
  rintro rfl; have := pathOk_len h; simp at this
theorem Mv.ne (h : Mv es f t) : f ≠ [] ∧ t ≠ [] ∧ pathOk f = true := by
  obtain ⟨h1, h2, h3, h4, h5⟩ := h.parts
  obtain ⟨x, hx, rfl⟩ := (there_mem (treeOk_is h.tree).sorted _).1 h1
  have := ok_path h.tree hx
  exact ⟨path_ne this, path_ne h3, this⟩
theorem Mv.none (h : Mv es f t) : ∀ x ∈ es, below t x.path = false := none_below (treeOk_is h.tree) h.ne.2.1 h.parts.2.1
theorem Mv.apart (h : Mv es f t) : Apart (es.map (moveE f t)) := moved_apart h.tree h.can
theorem Mv.sorted (h : Mv es f t) : Sorted (sortE (es.map (moveE f t))) := up_sorted (sortE_up h.apart)
theorem moved_mem {x : En} : x ∈ sortE (es.map (moveE f t)) ↔ ∃ e ∈ es, moveE f t e = x := by
  rw [(sortE_perm _).mem_iff, List.mem_map]
theorem moveE_no {e : En} (h : below f e.path = false) : moveE f t e = e := by unfold moveE; rw [h]; rfl
theorem moveE_yes {e : En} (h : below f e.path = true) : moveE f t e = { e with path := t ++ e.path.drop f.length } := by unfold moveE; rw [h]; rfl
theorem moveE_kind (e : En) : (moveE f t e).kind = e.kind ∧ (moveE f t e).mode = e.mode ∧ (moveE f t e).text = e.text := by
  unfold moveE; split <;> exact ⟨rfl, rfl, rfl⟩
theorem Mv.tf (h : Mv es f t) : below t f = false := by
  obtain ⟨x, hx, rfl⟩ := (there_mem (treeOk_is h.tree).sorted _).1 h.parts.1
  exact h.none x hx
theorem Mv.gone (h : Mv es f t) : there (sortE (es.map (moveE f t))) f = false := by
  cases hth : there (sortE (es.map (moveE f t))) f with
  | false => rfl
  | true =>
    obtain ⟨x, hx, hp⟩ := (there_mem h.sorted _).1 hth
    obtain ⟨e, he, rfl⟩ := moved_mem.1 hx
    cases hb : below f e.path with
    | false =>
      rw [moveE_no hb] at hp
      rw [hp, below_refl] at hb
      cases hb
    | true =>
      rw [moveE_yes hb] at hp
      have := (below_drop hb).2 t
      rw [show t ++ e.path.drop f.length = f from hp, h.tf] at this
      cases this
/-- a dir that is not moved is still there -/
theorem Mv.still (h : Mv es f t) {q : List UInt8} (hp : placeOk es q = true) (hq : below f q = false) : placeOk (sortE (es.map (moveE f t))) q = true := by
  unfold placeOk at hp ⊢
  rw [Bool.or_eq_true] at hp ⊢
  rcases hp with hp | hp
  · exact .inl hp
  · right
    obtain ⟨y, hy, hyp, hyk⟩ := (dirAt_iff (treeOk_is h.tree).sorted _).1 hp
    refine (dirAt_iff h.sorted _).2 ⟨y, moved_mem.2 ⟨y, hy, moveE_no (by rw [hyp]; exact hq)⟩, hyp, hyk⟩
theorem Mv.place (h : Mv es f t) {e : En} (he : e ∈ es) : placeOk (sortE (es.map (moveE f t))) (upL (moveE f t e).path) = true := by
  have hT := treeOk_is h.tree
  obtain ⟨h1, h2, h3, h4, h5⟩ := h.parts
  obtain ⟨hf, ht, hfo⟩ := h.ne
  have hpl : placeOk es (upL e.path) = true := by
    obtain ⟨i, hi, rfl⟩ := List.getElem_of_mem he
    exact hT.place i hi
  cases hb : below f e.path with
  | false =>
    rw [moveE_no hb]
    refine h.still hpl ?_
    cases hu : below f (upL e.path) with
    | false => rfl
    | true => rw [below_up hf hu] at hb; cases hb
  | true =>
    rw [moveE_yes hb]
    show placeOk _ (upL (t ++ e.path.drop f.length)) = true
    have key : ∀ q, upL e.path = f ++ q → (∀ x, below x (x ++ q) = true) → placeOk (sortE (es.map (moveE f t))) (t ++ q) = true := by
      intro q hq hbq
      rw [hq] at hpl
      unfold placeOk at hpl ⊢
      rw [Bool.or_eq_true] at hpl ⊢
      right
      rcases hpl with hpl | hpl
      · exfalso
        have : f ++ q = [] := by simpa using hpl
        exact hf (List.append_eq_nil_iff.1 this).1
      · obtain ⟨y, hy, hyp, hyk⟩ := (dirAt_iff hT.sorted _).1 hpl
        have hyb : below f y.path = true := by rw [hyp]; exact hbq f
        refine (dirAt_iff h.sorted _).2 ⟨moveE f t y, moved_mem.2 ⟨y, hy, rfl⟩, ?_, ?_⟩
        · rw [moveE_yes hyb]
          show t ++ y.path.drop f.length = t ++ q
          rw [hyp]; simp
        · rw [(moveE_kind y).1]; exact hyk
    rcases below_iff.1 hb with hx | ⟨r, hx⟩
    · rw [hx]
      rw [show f.drop f.length = [] by simp, List.append_nil]
      refine h.still h5 ?_
      cases hu : below f (upL t) with
      | false => rfl
      | true => rw [below_up hf hu] at h4; cases h4
    · have hd : e.path.drop f.length = 47 :: r := by rw [hx]; simp
      rw [hd]
      rcases split_last 47 r with hr | ⟨a, c, hc, rfl⟩
      · rw [upL_at hr]
        have := key [] (by rw [hx, upL_at hr]; simp) (fun x => by rw [List.append_nil]; exact below_refl x)
        simpa using this
      · have e1 : t ++ 47 :: (a ++ 47 :: c) = (t ++ 47 :: a) ++ 47 :: c := by simp
        have e2 : e.path = (f ++ 47 :: a) ++ 47 :: c := by rw [hx]; simp
        rw [e1, upL_at hc]
        exact key (47 :: a) (by rw [e2, upL_at hc]) (fun x => below_iff.2 (.inr ⟨a, rfl⟩))
theorem entry_moved {e : En} (h : entryOk e = true) (hp : pathOk (moveE f t e).path = true) : entryOk (moveE f t e) = true := by
  obtain ⟨k1, k2, k3⟩ := moveE_kind (f := f) (t := t) e
  unfold entryOk at h ⊢
  simp only [Bool.and_eq_true] at h ⊢
  rw [k1, k2, k3]
  exact ⟨⟨hp, h.1.2⟩, h.2⟩
theorem Mv.ok (h : Mv es f t) : treeOk (sortE (es.map (moveE f t))) = true := by
  have hT := treeOk_is h.tree
  have hall := h.all
  unfold movesOk at hall
  rw [List.all_eq_true] at hall
  refine treeOk_yes ⟨?_, ?_, h.sorted, ?_⟩
  · rw [sortE_length, List.length_map]; exact hT.len
  · intro i hi
    obtain ⟨e, he, hx⟩ := moved_mem.1 (List.getElem_mem hi)
    rw [← hx]
    obtain ⟨j, hj, hje⟩ := List.getElem_of_mem he
    exact entry_moved (by rw [← hje]; exact hT.ok j hj) (hall e he)
  · intro i hi
    obtain ⟨e, he, hx⟩ := moved_mem.1 (List.getElem_mem hi)
    rw [← hx]
    exact h.place he
theorem Mv.undo (h : Mv es f t) {e : En} (he : e ∈ es) : moveE t f (moveE f t e) = e := by
  cases hb : below f e.path with
  | false => rw [moveE_no hb, moveE_no (h.none e he)]
  | true =>
    obtain ⟨h1, h2⟩ := below_drop hb
    rw [moveE_yes hb, moveE_yes (h2 t)]
    obtain ⟨p, k, m, x⟩ := e
    simp only [List.drop_left] at h1 ⊢
    rw [← h1]
theorem Mv.mapped (h : Mv es f t) : ((sortE (es.map (moveE f t))).map (moveE t f)).Perm es := by
  refine ((sortE_perm _).map _).trans ?_
  rw [List.map_map]
  have : es.map (moveE t f ∘ moveE f t) = es := by
    conv => rhs; rw [← List.map_id es]
    exact List.map_congr_left (fun e he => h.undo he)
  rw [this]
theorem Mv.sorts (h : Mv es f t) : sortE ((sortE (es.map (moveE f t))).map (moveE t f)) = es := by
  have hu := sorted_up (treeOk_is h.tree).sorted
  have ha := apart_perm h.mapped.symm (up_apart hu)
  exact up_unique (sortE_up ha) hu ((sortE_perm _).trans h.mapped)
theorem Mv.back (h : Mv es f t) : Mv (sortE (es.map (moveE f t))) t f := by
  obtain ⟨h1, h2, h3, h4, h5⟩ := h.parts
  obtain ⟨hf, ht, hfo⟩ := h.ne
  obtain ⟨x, hx, hxp⟩ := (there_mem (treeOk_is h.tree).sorted _).1 h1
  have hxb : below f x.path = true := by rw [hxp]; exact below_refl f
  refine ⟨h.ok, moveB_yes ?_ h.gone hfo h.tf ?_, ?_⟩
  · refine (there_mem h.sorted _).2 ⟨moveE f t x, moved_mem.2 ⟨x, hx, rfl⟩, ?_⟩
    rw [moveE_yes hxb]
    show t ++ x.path.drop f.length = t
    rw [hxp]; simp
  · refine h.still ?_ (not_below_up hf)
    obtain ⟨i, hi, rfl⟩ := List.getElem_of_mem hx
    rw [← hxp]
    exact (treeOk_is h.tree).place i hi
  · unfold movesOk
    rw [List.all_eq_true]
    intro y hy
    obtain ⟨e, he, rfl⟩ := moved_mem.1 hy
    rw [h.undo he]
    exact ok_path h.tree he
theorem treeMove_mv {fs : List En} (ht : treeOk es = true) (h : treeMove es f t = (fs, true)) : Mv es f t ∧ fs = sortE (es.map (moveE f t)) := by
  unfold treeMove moveL at h
  rw [if_pos ht] at h
  split at h
  · rename_i hc
    rw [Bool.and_eq_true] at hc
    cases h
    exact ⟨⟨ht, hc.1, hc.2⟩, rfl⟩
  · cases h
theorem treeMove_false {fs : List En} (ht : treeOk es = true) (h : treeMove es f t = (fs, false)) : fs = es := by
  unfold treeMove moveL at h
  rw [if_pos ht] at h
  split at h
  · cases h
  · cases h; rfl
/-- moving, and back -/
theorem move_law {fs : List En} (ht : treeOk es = true) (h : treeMove es f t = (fs, true)) :
    treeOk fs = true ∧ there fs f = false ∧ fs.length = es.length ∧ treeMove fs t f = (es, true) ∧ (∀ e ∈ es, getAt fs (moveE f t e).path = some (moveE f t e)) := by
  obtain ⟨hM, rfl⟩ := treeMove_mv ht h
  have hb := hM.back
  refine ⟨hM.ok, hM.gone, by rw [sortE_length, List.length_map], ?_, fun e he => ?_⟩
  · rw [treeMove_yes hb.tree hb.can hb.all, hM.sorts]
  · exact (getAt_is hM.sorted).2 ⟨moved_mem.2 ⟨e, he, rfl⟩, rfl⟩
end
end Go.Proofs.YtjihpbioofikcaaDoor
