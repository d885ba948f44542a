/-
  Joining trees, plainly: what the joined tree has, and that either may come first.
-/
import Derived.Test.YtiknkjhdieepbaaDoorPutK
namespace Go.Proofs.YtiknkjhdieepbaaDoor
open Go.RowKit
set_option linter.unusedVariables false
set_option linter.unusedSimpArgs false

/-- what both have is a dir, the same in both -/
def Agree (a b : List En) : Prop := ∀ x ∈ a, ∀ y ∈ b, x.path = y.path → x = y ∧ x.kind = 1
theorem Agree.symm {a b : List En} (h : Agree a b) : Agree b a := fun x hx y hy e => by
  obtain ⟨h1, h2⟩ := h y hy x hx e.symm
  exact ⟨h1.symm, by rw [← h1]; exact h2⟩
theorem same_of_path {a : List En} (ha : Sorted a) {x y : En} (hx : x ∈ a) (hy : y ∈ a) (h : x.path = y.path) : x = y := by
  obtain ⟨i, hi, rfl⟩ := List.getElem_of_mem hx
  obtain ⟨j, hj, rfl⟩ := List.getElem_of_mem hy
  have h1 := atGo_mem ha hi
  have h2 := atGo_mem ha hj
  rw [h] at h1
  have : i = j := by omega
  subst this
  rfl
theorem sorted_tail {e : En} {r : List En} (h : Sorted (e :: r)) : Sorted r ∧ ∀ y ∈ r, Op.bytesLess e.path y.path = true := by
  have hu := sorted_up h
  unfold Up at hu
  rw [List.pairwise_cons] at hu
  exact ⟨up_sorted hu.2, hu.1⟩
def Joined (a b x : List En) : Prop := Sorted x ∧ ∀ e, e ∈ x ↔ e ∈ a ∨ e ∈ b
theorem joinGo_cases : ∀ (b a : List En), Sorted a → Sorted b →
    (Agree a b ∧ ∃ x, joinGo a b = some x ∧ Joined a b x ∧ x.length + b.countP (fun e => there a e.path) = a.length + b.length) ∨ (¬ Agree a b ∧ joinGo a b = none)
  | [], a, ha, hb => .inl ⟨fun x hx y hy => by simp at hy, a, rfl, ⟨ha, by simp⟩, by simp⟩
  | e :: r, a, ha, hb => by
    obtain ⟨hr, her⟩ := sorted_tail hb
    cases hth : there a e.path with
    | true =>
      obtain ⟨hk, hp⟩ := there_iff.1 hth
      by_cases hs : e.kind = 1 ∧ sameE (a[atGo a e.path]) e = true
      · have he : a[atGo a e.path] = e := sameE_iff.1 hs.2
        have hem : e ∈ a := by rw [← he]; exact List.getElem_mem hk
        rw [joinGo_same hth rfl hk hs.1 hs.2]
        have hag : Agree a (e :: r) ↔ Agree a r := by
          constructor
          · intro h x hx y hy; exact h x hx y (by simp [hy])
          · intro h x hx y hy hxy
            rcases List.mem_cons.1 hy with rfl | hy
            · have := same_of_path ha hx hem hxy
              exact ⟨this, by rw [this]; exact hs.1⟩
            · exact h x hx y hy hxy
        rcases joinGo_cases r a ha hr with ⟨h1, x, h2, ⟨h3, h4⟩, h5⟩ | ⟨h1, h2⟩
        · refine .inl ⟨hag.2 h1, x, h2, ⟨h3, fun y => ?_⟩, ?_⟩
          · rw [h4]
            constructor
            · rintro (h | h)
              · exact .inl h
              · exact .inr (by simp [h])
            · rintro (h | h)
              · exact .inl h
              · rcases List.mem_cons.1 h with rfl | h
                · exact .inl hem
                · exact .inr h
          · rw [List.countP_cons_of_pos (p := fun e : En => there a e.path) hth, List.length_cons]; omega
        · exact .inr ⟨fun h => h1 (hag.1 h), h2⟩
      · refine .inr ⟨fun h => hs ?_, joinGo_no hth rfl hk ?_⟩
        · obtain ⟨h1, h2⟩ := h _ (List.getElem_mem hk) e (by simp) hp
          exact ⟨by rw [← h1]; exact h2, sameE_iff.2 h1⟩
        · by_cases h1 : e.kind = 1
          · right
            cases h2 : sameE (a[atGo a e.path]) e with
            | false => rfl
            | true => exact absurd ⟨h1, h2⟩ hs
          · exact .inl h1
    | false =>
      rw [joinGo_ins hth rfl]
      have hins := insE_sorted ha hth
      have hmem : ∀ y, y ∈ insE a (atGo a e.path) e ↔ y = e ∨ y ∈ a := fun y => by rw [(insE_perm a _ e).mem_iff, List.mem_cons]
      have hno : ∀ y ∈ a, y.path ≠ e.path := fun y hy h => by
        rw [(there_mem ha _).2 ⟨y, hy, h⟩] at hth; cases hth
      have hag : Agree a (e :: r) ↔ Agree (insE a (atGo a e.path) e) r := by
        constructor
        · intro h x hx y hy hxy
          rcases (hmem x).1 hx with rfl | hx
          · have := her y hy
            rw [hxy, lt_irrefl] at this; cases this
          · exact h x hx y (by simp [hy]) hxy
        · intro h x hx y hy hxy
          rcases List.mem_cons.1 hy with rfl | hy
          · exact absurd hxy (hno x hx)
          · exact h x ((hmem x).2 (.inr hx)) y hy hxy
      have hct : r.countP (fun y => there (insE a (atGo a e.path) e) y.path) = r.countP (fun y => there a y.path) := by
        refine List.countP_congr (fun y hy => ?_)
        rw [there_mem hins, there_mem ha]
        constructor
        · rintro ⟨x, hx, hxy⟩
          rcases (hmem x).1 hx with rfl | hx
          · have := her y hy
            rw [hxy, lt_irrefl] at this; cases this
          · exact ⟨x, hx, hxy⟩
        · rintro ⟨x, hx, hxy⟩
          exact ⟨x, (hmem x).2 (.inr hx), hxy⟩
      rcases joinGo_cases r _ hins hr with ⟨h1, x, h2, ⟨h3, h4⟩, h5⟩ | ⟨h1, h2⟩
      · refine .inl ⟨hag.2 h1, x, h2, ⟨h3, fun y => ?_⟩, ?_⟩
        · rw [h4, hmem, List.mem_cons]
          constructor
          · rintro ((h | h) | h)
            · exact .inr (.inl h)
            · exact .inl h
            · exact .inr (.inr h)
          · rintro (h | h | h)
            · exact .inl (.inr h)
            · exact .inl (.inl h)
            · exact .inr h
        · rw [hct, insE_length e (atGo_le a e.path)] at h5
          rw [List.countP_cons_of_neg (p := fun e : En => there a e.path) (by show ¬ there a e.path = true; rw [hth]; simp), List.length_cons]; omega
      · exact .inr ⟨fun h => h1 (hag.1 h), h2⟩
theorem joined_unique {a b x y : List En} (hx : Joined a b x) (hy : Joined a b y) : x = y := by
  have ux := sorted_up hx.1
  have uy := sorted_up hy.1
  refine up_unique ux uy ?_
  have nd : ∀ {z : List En}, Up z → z.Nodup := fun h => List.Pairwise.imp (fun h e => by rw [e, lt_irrefl] at h; cases h) h
  exact (List.perm_ext_iff_of_nodup (nd ux) (nd uy)).2 (fun e => by rw [hx.2, hy.2])
theorem treeJoin_parts {a b x : List En} (h : treeJoin a b = (x, true)) : treeOk a = true ∧ treeOk b = true ∧ joinGo a b = some x ∧ treeOk x = true := by
  unfold treeJoin at h
  split at h
  · rename_i hab
    unfold joinL at h
    split at h
    · rename_i y hy
      split at h
      · rename_i ho
        cases h
        exact ⟨hab.1, hab.2, hy, ho⟩
      · cases h
    · cases h
  · cases h
/-- either may come first; each has its entries in the joined tree; what both have is counted once -/
theorem join_law {a b x : List En} (h : treeJoin a b = (x, true)) :
    treeOk x = true ∧ treeJoin b a = (x, true) ∧ (∀ e ∈ a, getAt x e.path = some e) ∧ (∀ e ∈ b, getAt x e.path = some e) ∧ x.length + a.countP (fun e => there b e.path) = a.length + b.length := by
  obtain ⟨ha, hb, hj, hx⟩ := treeJoin_parts h
  have sa := (treeOk_is ha).sorted
  have sb := (treeOk_is hb).sorted
  have sx := (treeOk_is hx).sorted
  rcases joinGo_cases b a sa sb with ⟨hag, y, hy, hJ, _⟩ | ⟨_, hn⟩
  · rw [hj] at hy
    cases hy
    rcases joinGo_cases a b sb sa with ⟨_, z, hz, hJ2, hc⟩ | ⟨hn, _⟩
    · have hzx : z = x := joined_unique ⟨hJ2.1, hJ2.2⟩ ⟨hJ.1, fun e => by rw [hJ.2]; exact Or.comm⟩
      subst hzx
      refine ⟨hx, ?_, fun e he => (getAt_is sx).2 ⟨(hJ.2 e).2 (.inl he), rfl⟩, fun e he => (getAt_is sx).2 ⟨(hJ.2 e).2 (.inr he), rfl⟩, by omega⟩
      rw [treeJoin_ok hb ha, joinL_ok hz hx]
    · exact absurd hag.symm hn
  · rw [hj] at hn; cases hn
/-- a tree and itself -/
theorem join_self {es : List En} (h : treeOk es = true) : treeJoin es es = if es.all (fun e => e.kind == 1) then (es, true) else ([], false) := by
  have hs := (treeOk_is h).sorted
  rw [treeJoin_ok h h]
  rcases joinGo_cases es es hs hs with ⟨hag, x, hx, hJ, _⟩ | ⟨hag, hn⟩
  · have : x = es := joined_unique hJ ⟨hs, fun e => by simp⟩
    subst this
    rw [joinL_ok hx h, if_pos]
    rw [List.all_eq_true]
    intro e he
    rw [(hag e he e he rfl).2]; rfl
  · rw [joinL_none hn, if_neg]
    intro hall
    rw [List.all_eq_true] at hall
    exact hag (fun x hx y hy hxy => ⟨same_of_path hs hx hy hxy, by simpa using hall x hx⟩)
theorem join_nil {es : List En} (h : treeOk es = true) (h0 : treeOk [] = true) : treeJoin es [] = (es, true) := by
  rw [treeJoin_ok h h0, joinL_ok (joinGo_nil es) h]
theorem nil_join {es : List En} (h : treeOk es = true) (h0 : treeOk [] = true) : treeJoin [] es = (es, true) := by
  have hs := (treeOk_is h).sorted
  have s0 := (treeOk_is h0).sorted
  rw [treeJoin_ok h0 h]
  rcases joinGo_cases es [] s0 hs with ⟨hag, x, hx, hJ, _⟩ | ⟨hag, hn⟩
  · have : x = es := joined_unique hJ ⟨hs, fun e => by simp⟩
    subst this
    exact joinL_ok hx h
  · exact absurd (fun x hx => by simp at hx) hag
end Go.Proofs.YtiknkjhdieepbaaDoor
