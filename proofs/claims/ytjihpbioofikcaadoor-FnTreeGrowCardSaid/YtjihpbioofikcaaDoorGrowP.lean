/-
  A fresh folder grows in a tree, and is dropped again, plainly.
-/
import Derived.Test.YtjihpbioofikcaaDoorPutK
import Derived.Test.YtjihpbioofikcaaDoorDropC
import Derived.Test.YtjihpbioofikcaaDoorGG
namespace Go.Proofs.YtjihpbioofikcaaDoor
open Go.RowKit
set_option linter.unusedVariables false
set_option linter.unusedSimpArgs false

abbrev fr : List UInt8 := [102, 114, 101, 115, 104]
abbrev fa : List UInt8 := [102, 114, 101, 115, 104, 47, 97]
abbrev fb : List UInt8 := [102, 114, 101, 115, 104, 47, 97, 47, 98]
theorem put_new {es : List En} {e : En} (ht : treeOk es = true) (he : entryOk e = true) (hp : placeOk es (upL e.path) = true) (hno : ∀ x ∈ es, x.path ≠ e.path) (hl : es.length < 16) : putL es e = (insE es (atGo es e.path) e, true) := by
  refine putL_ins he hp ?_ rfl (by omega)
  cases hth : there es e.path with
  | false => rfl
  | true => obtain ⟨x, hx, h⟩ := (there_mem (treeOk_is ht).sorted _).1 hth; exact absurd h (hno x hx)
theorem drop_ins {es : List En} {e : En} {k : Nat} {p : List UInt8} (h : below p e.path = true) : dropL (insE es k e) p = dropL es p := by
  unfold dropL insE
  have hs : stays p e = false := by unfold stays; rw [h]; rfl
  rw [List.filter_append, List.filter_cons, hs]
  simp only [Bool.false_eq_true, if_false]
  rw [← List.filter_append, List.take_append_drop]
theorem below_take {s : List UInt8} (h : below fr s = true) : s.take 2 = [102, 114] := by
  rcases below_iff.1 h with h | ⟨r, h⟩
  · rw [h]; rfl
  · rw [h]; rfl
theorem grow_plain {es : List En} (ht : treeOk es = true) (hd : ∀ e ∈ es, DrE e) (hl : es.length + 3 ≤ 16) :
    ∃ f1 f3 f4, putL es ⟨fr, 1, 7, []⟩ = (f1, true) ∧ putL es ⟨fa, 2, 0, []⟩ = (es, false) ∧ putL f1 ⟨fa, 1, 0, []⟩ = (f3, true) ∧ putL f3 ⟨fb, 3, 0, fr⟩ = (f4, true) ∧
      treeOk f1 = true ∧ treeOk f3 = true ∧ treeOk f4 = true ∧ treeFollow f4 fb = some ⟨fr, 1, 7, []⟩ ∧ treeDrop f4 fr = (es, true) := by
  have hnb : ∀ x ∈ es, below fr x.path = false := fun x hx => by
    cases hb : below fr x.path with
    | false => rfl
    | true => exact absurd (below_take hb) (hd x hx).1.2
  have hbn : ∀ x ∈ es, ∀ q, below fr q = true → x.path ≠ q := fun x hx q hq h => by
    have := hnb x hx
    rw [h, hq] at this; cases this
  have b1 : below fr fr = true := by decide
  have b2 : below fr fa = true := by decide
  have b3 : below fr fb = true := by decide
  have p1 := put_new (e := ⟨fr, 1, 7, []⟩) ht (by decide) (by rw [show upL fr = [] by decide]; rfl) (fun x hx => hbn x hx _ b1) (by omega)
  obtain ⟨k1, -, m1, l1⟩ := putL_ok ht p1
  have hs0 := (treeOk_is ht).sorted
  have hs1 := (treeOk_is k1).sorted
  have p2 : putL es ⟨fa, 2, 0, []⟩ = (es, false) := by
    refine putL_place ?_
    rw [show upL fa = fr by decide]
    cases hpl : placeOk es fr with
    | false => rfl
    | true =>
      unfold placeOk at hpl
      obtain ⟨x, hx, hxp, _⟩ := (dirAt_iff hs0 fr).1 (by simpa using hpl)
      exact absurd hxp (hbn x hx _ b1)
  have p3 := put_new (e := ⟨fa, 1, 0, []⟩) k1 (by decide) (by
    rw [show upL fa = fr by decide]
    unfold placeOk
    rw [(dirAt_iff hs1 fr).2 ⟨_, (m1 _).2 (.inl rfl), rfl, rfl⟩]; simp) (fun x hx => by
    rcases (m1 x).1 hx with h | ⟨h, _⟩
    · rw [h]; decide
    · exact hbn x h _ b2) (by omega)
  obtain ⟨k3, -, m3, l3⟩ := putL_ok k1 p3
  have hs3 := (treeOk_is k3).sorted
  have p4 := put_new (e := ⟨fb, 3, 0, fr⟩) k3 (by decide) (by
    rw [show upL fb = fa by decide]
    unfold placeOk
    rw [(dirAt_iff hs3 fa).2 ⟨_, (m3 _).2 (.inl rfl), rfl, rfl⟩]; simp) (fun x hx => by
    rcases (m3 x).1 hx with h | ⟨h, _⟩
    · rw [h]; decide
    · rcases (m1 x).1 h with h | ⟨h, _⟩
      · rw [h]; decide
      · exact hbn x h _ b3) (by omega)
  obtain ⟨k4, -, m4, l4⟩ := putL_ok k3 p4
  have hs4 := (treeOk_is k4).sorted
  have in1 : (⟨fr, 1, 7, []⟩ : En) ∈ insE (insE (insE es (atGo es fr) ⟨fr, 1, 7, []⟩) (atGo (insE es (atGo es fr) ⟨fr, 1, 7, []⟩) fa) ⟨fa, 1, 0, []⟩) (atGo (insE (insE es (atGo es fr) ⟨fr, 1, 7, []⟩) (atGo (insE es (atGo es fr) ⟨fr, 1, 7, []⟩) fa) ⟨fa, 1, 0, []⟩) fb) ⟨fb, 3, 0, fr⟩ := by
    refine (m4 _).2 (.inr ⟨(m3 _).2 (.inr ⟨(m1 _).2 (.inl rfl), by decide⟩), by decide⟩)
  refine ⟨_, _, _, p1, p2, p3, p4, k1, k3, k4, ?_, ?_⟩
  · rw [treeFollow_ok k4, follow_goOn, (getAt_is hs4).2 ⟨(m4 _).2 (.inl rfl), rfl⟩, goOn_link rfl, (getAt_is hs4).2 ⟨in1, rfl⟩, goOn_end (by decide)]
  · rw [treeDrop_yes k4 ((there_mem hs4 _).2 ⟨_, in1, rfl⟩), drop_ins b3, drop_ins b2, drop_ins b1]
    rw [show dropL es fr = es from List.filter_eq_self.2 (fun x hx => by unfold stays; rw [hnb x hx]; rfl)]
end Go.Proofs.YtjihpbioofikcaaDoor
