/-
  The walk of DrawTreePut; putting and dropping again, plainly.
-/
import Derived.Test.YtjihpbioofikcaaDoorGH
import Derived.Test.YtjihpbioofikcaaDoorPutK
import Derived.Test.YtjihpbioofikcaaDoorGE
namespace Go.Proofs.YtjihpbioofikcaaDoor
open Go.RowKit
set_option linter.unusedVariables false
set_option linter.unusedSimpArgs false
attribute [local go_sem] mkB_size mkB_extract mkB_get mkB_append mkB_append_raw raw_append_mkB mkB_toList

theorem IsBytes.belowW {w w' : World} {A : Option Addr} {n c : Nat} (h : IsBytes w A n c) (hB : Below w.heap.size w w') : IsBytes w' A n c := by
  obtain ⟨h1, h2, h3⟩ := h
  refine ⟨h1, h2, ?_⟩
  rcases h3 with h3 | ⟨b, off, rfl, hb, h4⟩
  · exact .inl h3
  · refine .inr ⟨b, off, rfl, Nat.lt_of_lt_of_le hb hB.size, fun i hi => ?_⟩
    obtain ⟨x, hx, h5⟩ := h4 i hi
    exact ⟨x, hx, (cell_of_same (hB.block b hb) _).trans h5⟩
theorem own_set {w : World} {lo g c B j : Nat} {v : Value} {es : List En} (h : OwnR w lo g c es) (hne : g ≠ B) : OwnR (w.setCell ⟨B, j, none⟩ v) lo g c es := by
  obtain ⟨h1, h2, h3, h4⟩ := h.parts
  obtain ⟨cur, hh, hs, hc⟩ := h1
  exact OwnR.of ⟨cur, (Below.heap_setCell _ _ _ g hne).trans hh, hs, hc⟩ h2 h3 h4
set_option maxRecDepth 1000000 in
set_option maxHeartbeats 4000000 in
theorem DrawTreePut_any (A : Option Addr) (n c : Nat) (w : World) (h : IsBytes w A n c) :
    Calls Tryd.prog 45 #[.slice A n c] w (DTreeE w) := by
  have hh := Lib.hid h
  clear h
  go_enter Tryd.func45, Tryd.ntmps45
  go_wp2_with fail
  obtain ⟨W1, hW1⟩ : ∃ W1, (w.alloc (.cells #[.string { data := #[] }, .int .i64 0, .int .i64 0, .string { data := #[] }] 31)) = W1 := ⟨_, rfl⟩
  have hr1 : Box4 W1 w.heap.size 31 (.string { data := #[] }) (.int .i64 0) (.int .i64 0) (.string { data := #[] }) := by rw [← hW1]; exact (Box4.new _ _ _ _ _ _)
  have hB1 : Below w.heap.size w W1 := by rw [← hW1]; exact (Below.refl _ _).alloc (Nat.le_refl _) _
  rw [hW1]
  clear hW1
  with_reducible refine (l1Open_any A n c W1 (hh.out.belowW hB1)).mono ?_
  rintro e w2 ⟨rb, hr, rfl, hR, hB⟩
  have hl1 := hr1.lt
  have hr2 := hr1.below hB hl1
  have hB2 := hB1.trans (hB.mono hB1.size)
  have hrl := hR.lt
  have hwr : w.heap.size ≤ rb := by omega
  have hs2 := hB2.size
  clear hr1 hB1 hB
  go_wp2_with fail
  with_reducible refine (l11AnyTree_any rb 0 w2 (RdB.of hR) (by omega)).mono ?_
  rintro e w3 ⟨es, g, c', hT, rfl, hO, hR2, hg⟩
  have hr3 := box_gr hr2 hg (by omega)
  have hB3 := below_gr hB2 hwr hg
  go_wp2_with fail
  with_reducible refine (l11AnyEntry_any rb (0 + 50) w3 hR2 (by omega)).mono ?_
  rintro e w4 ⟨⟨p, kd, md, t⟩, hx, rfl, hR4, hg4⟩
  have hr4 := box_gr hr3 hg4 (by omega)
  have hB4 := below_gr hB3 hwr hg4
  have hO4 := own_gr hO hg4 hrl
  have hgl := hO4.parts.2.1
  have hne : g ≠ w.heap.size := by omega
  clear hr2 hr3 hB2 hB3 hO hg hg4 hR hR2 hR4
  have b0 := hr4.cell0
  have f0 := hr4.frozen 0
  have b1 := hr4.cell1
  have f1 := hr4.frozen 1
  have b2 := hr4.cell2
  have f2 := hr4.frozen 2
  have b3 := hr4.cell3
  have f3 := hr4.frozen 3
  have hO5 := Lib.hid ((own_set (B := w.heap.size) (j := 3) (v := .string (mkB t)) (own_set (B := w.heap.size) (j := 2) (v := .int .i64 md) (own_set (B := w.heap.size) (j := 1) (v := .int .i64 kd) (own_set (B := w.heap.size) (j := 0) (v := .string (mkB p)) hO4 hne) hne) hne) hne))
  have hB5 := Lib.hid ((((hB4.setCell (p := ⟨w.heap.size, 0, none⟩) (Nat.le_refl _) (.string (mkB p))).setCell (p := ⟨w.heap.size, 1, none⟩) (Nat.le_refl _) (.int .i64 kd)).setCell (p := ⟨w.heap.size, 2, none⟩) (Nat.le_refl _) (.int .i64 md)).setCell (p := ⟨w.heap.size, 3, none⟩) (Nat.le_refl _) (.string (mkB t)))
  have hfin := Lib.hid ((((hr4.set0 (.string (mkB p))).set1 (.int .i64 kd)).set2 (.int .i64 md)).set3 (.string (mkB t)))
  go_wp2
  have e0 := hfin.out.cell0
  have e1 := hfin.out.cell1
  have e2 := hfin.out.cell2
  have e3 := hfin.out.cell3
  refine bodyPost_ret (v := .tuple #[.slice (some ⟨g, 0, none⟩) es.length c', .agg #[.string (mkB p), .int .i64 kd, .int .i64 md, .string (mkB t)]]) (by simp [results, Tryd.results45, go_sem, e0, e1, e2, e3]) rfl ?_
  exact ⟨es, g, c', ⟨p, kd, md, t⟩, hT, hx, rfl, hO5.out.lower hs2, hB5.out⟩

theorem drop_ok {es : List En} {p : List UInt8} (h : treeOk es = true) (h2 : there es p = true) : treeDrop es p = (dropL es p, true) := by
  unfold treeDrop; simp [h, h2]
/-- an entry is put in and dropped again -/
theorem put_drop {es fs : List En} {e : En} (ht : treeOk es = true) (h : putL es e = (fs, true)) : treeOk fs = true ∧ there fs e.path = true ∧ (getAt es e.path = none → dropL fs e.path = es) := by
  obtain ⟨h1, h2, h3, h4⟩ := putL_ok ht h
  have hs := (treeOk_is ht).sorted
  have hs2 := (treeOk_is h1).sorted
  refine ⟨h1, (there_mem hs2 _).2 ⟨e, (h3 e).2 (.inl rfl), rfl⟩, fun hno => ?_⟩
  have hno' : there es e.path = false := by
    cases hth : there es e.path with
    | false => rfl
    | true => obtain ⟨x, hx, he⟩ := (there_mem hs _).1 hth; exact absurd he ((getAt_none_iff hs).1 hno x hx)
  have hpne : e.path ≠ [] := by
    have := (pathOk_len (entryOk_path h2)).1
    intro h; rw [h] at this; simp at this
  have hnb := none_below (treeOk_is ht) hpne hno'
  have hfs : fs = insE es (atGo es e.path) e := by
    have h5 := h
    unfold putL at h5
    rw [hno'] at h5
    split at h5
    · simp only [Bool.false_eq_true, if_false] at h5
      split at h5
      · cases h5
      · cases h5; rfl
    · cases h5
  rw [hfs]
  unfold dropL insE
  have hst : ∀ x ∈ es, stays e.path x = true := fun x hx => by unfold stays; rw [hnb x hx]; rfl
  rw [List.filter_append, List.filter_cons, List.filter_eq_self.2 (fun x hx => hst x (List.mem_of_mem_take hx)), List.filter_eq_self.2 (fun x hx => hst x (List.mem_of_mem_drop hx))]
  have : stays e.path e = false := by unfold stays; rw [below_iff.2 (.inl rfl)]; rfl
  rw [this]
  simp
end Go.Proofs.YtjihpbioofikcaaDoor
