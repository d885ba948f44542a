/-
  DropP, DropI, DropD, DropT, DropS: merged.
-/
import Derived.Test.YtiknkjhdieepbaaDoorGF
import Derived.Test.YtiknkjhdieepbaaDoorCopyE
import Derived.Laws.IdiomCopy
/-
  Dropping, plainly.
-/
namespace Go.Proofs.YtiknkjhdieepbaaDoor
open Go.RowKit
set_option linter.unusedVariables false
set_option linter.unusedSimpArgs false

/-- what is left behind a drop -/
def stays (p : List UInt8) (e : En) : Bool := !below p e.path
def dropL (es : List En) (p : List UInt8) : List En := es.filter (stays p)
/-- the entries of a tree are below a place that is there just if they are in it -/
theorem stays_in {es : List En} {p : List UInt8} (ht : treeOk es = true) (hth : there es p = true) {i : Nat} (hi : i < es.length) : pathIn p es[i].path = !stays p es[i] := by
  have hT := treeOk_is ht
  obtain ⟨hk, he⟩ := there_iff.1 hth
  have hp : pathOk p = true := by rw [← he]; exact entryOk_path (hT.ok _ hk)
  have hq : pathOk es[i].path = true := entryOk_path (hT.ok i hi)
  unfold stays pathIn
  rw [hp, hq]
  simp
theorem filter_take {q : En → Bool} {es : List En} {j : Nat} (hj : j < es.length) : (es.take (j + 1)).filter q = (es.take j).filter q ++ (if q es[j] then [es[j]] else []) := by
  rw [List.take_succ_eq_append_getElem hj, List.filter_append]
  congr 1
  cases h : q es[j] <;> simp [h]
theorem filter_take_le (q : En → Bool) (es : List En) (j : Nat) : ((es.take j).filter q).length ≤ j := by
  refine Nat.le_trans (List.length_filter_le _ _) ?_
  simp; omega
theorem filter_all {q : En → Bool} {es : List En} {j : Nat} (h : ∀ i (hi : i < es.length), i < j → q es[i] = true) (hj : j ≤ es.length) : (es.take j).filter q = es.take j := by
  rw [List.filter_eq_self]
  intro e he
  obtain ⟨i, hi, rfl⟩ := List.getElem_of_mem he
  simp only [List.length_take] at hi
  simpa using h i (by omega) (by omega)
/-- a row: first what was taken, then what is still to come -/
def Row2 (w : World) (g m : Nat) (fs es : List En) (j : Nat) : Prop := ∃ cur : Array Value, w.heap[g]? = some (.cells cur 30 (0, 0)) ∧ cur.size = m * 4 ∧
  (∀ i (h : i < fs.length), cur[i * 4]? = some (.string (mkB fs[i].path)) ∧ cur[i * 4 + 1]? = some (.int .i64 fs[i].kind) ∧ cur[i * 4 + 2]? = some (.int .i64 fs[i].mode) ∧ cur[i * 4 + 3]? = some (.string (mkB fs[i].text))) ∧
  (∀ i (h : i < es.length), j ≤ i → cur[i * 4]? = some (.string (mkB es[i].path)) ∧ cur[i * 4 + 1]? = some (.int .i64 es[i].kind) ∧ cur[i * 4 + 2]? = some (.int .i64 es[i].mode) ∧ cur[i * 4 + 3]? = some (.string (mkB es[i].text)))
theorem Row2.start {w : World} {g m j : Nat} {es : List En} (h : RowE w g m es.length es) : Row2 w g m (es.take j) es j := by
  obtain ⟨cur, hh, hs, hc⟩ := h
  refine ⟨cur, hh, hs, fun i hi => ?_, fun i hi _ => hc i hi hi⟩
  simp only [List.length_take] at hi
  simpa using hc i (by omega) (by omega)
theorem Row2.skip {w : World} {g m j : Nat} {fs es : List En} (h : Row2 w g m fs es j) : Row2 w g m fs es (j + 1) := by
  obtain ⟨cur, hh, hs, hc, hd⟩ := h
  exact ⟨cur, hh, hs, hc, fun i hi hj => hd i hi (by omega)⟩
theorem Row2.below {w w' : World} {g m j n : Nat} {fs es : List En} (h : Row2 w g m fs es j) (hB : Below n w w') (hg : g < n) : Row2 w' g m fs es j := by
  obtain ⟨cur, hh, hs⟩ := h
  exact ⟨cur, (hB.block g hg).trans hh, hs⟩
theorem Row2.lt {w : World} {g m j : Nat} {fs es : List En} (h : Row2 w g m fs es j) : g < w.heap.size := by
  obtain ⟨cur, hh, _⟩ := h
  exact (Array.getElem?_eq_some_iff.1 hh).1
theorem Row2.room {w : World} {g m j : Nat} {fs es : List En} (h : Row2 w g m fs es j) {k : Nat} (hk : k < m * 4) : ∃ v, w.cell? ⟨g, k, none⟩ = some v := by
  obtain ⟨cur, hh, hs, _⟩ := h
  exact ⟨cur[k]'(by omega), by rw [row_cell _ _ _ _ _ _ hh, Array.getElem?_eq_getElem (by omega)]⟩
theorem Row2.frozen {w : World} {g m j : Nat} {fs es : List En} (h : Row2 w g m fs es j) (k : Nat) : w.frozen? ⟨g, k, none⟩ = false := by
  obtain ⟨cur, hh, hs, _⟩ := h
  simp [World.frozen?, hh]
theorem Row2.next {w : World} {g m j : Nat} {fs es : List En} (h : Row2 w g m fs es j) {i : Nat} (hi : i < es.length) (hj : j ≤ i) :
    w.cell? ⟨g, i * 4, none⟩ = some (.string (mkB es[i].path)) ∧ w.cell? ⟨g, i * 4 + 1, none⟩ = some (.int .i64 es[i].kind) ∧ w.cell? ⟨g, i * 4 + 2, none⟩ = some (.int .i64 es[i].mode) ∧ w.cell? ⟨g, i * 4 + 3, none⟩ = some (.string (mkB es[i].text)) := by
  obtain ⟨cur, hh, hs, _, hd⟩ := h
  obtain ⟨c0, c1, c2, c3⟩ := hd i hi hj
  exact ⟨by rw [row_cell _ _ _ _ _ _ hh]; exact c0, by rw [row_cell _ _ _ _ _ _ hh]; exact c1, by rw [row_cell _ _ _ _ _ _ hh]; exact c2, by rw [row_cell _ _ _ _ _ _ hh]; exact c3⟩
theorem Row2.row {w : World} {g m j : Nat} {fs es : List En} (h : Row2 w g m fs es j) : RowE w g m fs.length fs := by
  obtain ⟨cur, hh, hs, hc, _⟩ := h
  exact ⟨cur, hh, hs, fun i hi _ => hc i hi⟩
/-- element j is written behind what was taken -/
theorem Row2.put {w : World} {g m j k : Nat} {fs es : List En} (h : Row2 w g m fs es j) (hk : fs.length = k) (hkj : k ≤ j) (hj : j < es.length) (hm : es.length ≤ m) :
    Row2 ((((w.setCell ⟨g, k * 4, none⟩ (.string (mkB es[j].path))).setCell ⟨g, k * 4 + 1, none⟩ (.int .i64 es[j].kind)).setCell ⟨g, k * 4 + 2, none⟩ (.int .i64 es[j].mode)).setCell ⟨g, k * 4 + 3, none⟩ (.string (mkB es[j].text))) g m (fs ++ [es[j]]) es (j + 1) := by
  obtain ⟨cur, hh, hs, hc, hd⟩ := h
  refine ⟨_, heap_set (heap_set (heap_set (heap_set hh))), by simp [hs], fun i hi => ?_, fun i hi hij => ?_⟩
  · simp only [Array.getElem?_setIfInBounds, Array.size_setIfInBounds, hs]
    simp only [List.length_append, List.length_cons, List.length_nil] at hi
    rcases Nat.lt_or_ge i k with h1 | h1
    · obtain ⟨c0, c1, c2, c3⟩ := hc i (by omega)
      rw [List.getElem_append_left (by omega)]
      refine ⟨?_, ?_, ?_, ?_⟩
      · rw [if_neg (by omega), if_neg (by omega), if_neg (by omega), if_neg (by omega)]; exact c0
      · rw [if_neg (by omega), if_neg (by omega), if_neg (by omega), if_neg (by omega)]; exact c1
      · rw [if_neg (by omega), if_neg (by omega), if_neg (by omega), if_neg (by omega)]; exact c2
      · rw [if_neg (by omega), if_neg (by omega), if_neg (by omega), if_neg (by omega)]; exact c3
    · obtain rfl : i = k := by omega
      rw [List.getElem_append_right (by omega)]
      simp only [hk, Nat.sub_self, List.getElem_cons_zero]
      refine ⟨?_, ?_, ?_, ?_⟩
      · rw [if_neg (by omega), if_neg (by omega), if_neg (by omega), if_pos (by first | trivial | rfl), if_pos (by omega)]
      · rw [if_neg (by omega), if_neg (by omega), if_pos (by first | trivial | rfl), if_pos (by omega)]
      · rw [if_neg (by omega), if_pos (by first | trivial | rfl), if_pos (by omega)]
      · rw [if_pos (by first | trivial | rfl), if_pos (by omega)]
  · simp only [Array.getElem?_setIfInBounds, Array.size_setIfInBounds, hs]
    obtain ⟨c0, c1, c2, c3⟩ := hd i hi (by omega)
    refine ⟨?_, ?_, ?_, ?_⟩
    · rw [if_neg (by omega), if_neg (by omega), if_neg (by omega), if_neg (by omega)]; exact c0
    · rw [if_neg (by omega), if_neg (by omega), if_neg (by omega), if_neg (by omega)]; exact c1
    · rw [if_neg (by omega), if_neg (by omega), if_neg (by omega), if_neg (by omega)]; exact c2
    · rw [if_neg (by omega), if_neg (by omega), if_neg (by omega), if_neg (by omega)]; exact c3
/-- what lies behind a cell is cleared: what lies before it stays -/
theorem heap_setCells {g : Nat} {t : TypeId} : ∀ (vs : List Value) (o : Nat) (w : World) (cur : Array Value), w.heap[g]? = some (.cells cur t (0, 0)) →
    ∃ cur' : Array Value, (w.setCells g o vs).heap[g]? = some (.cells cur' t (0, 0)) ∧ cur'.size = cur.size ∧ ∀ k, k < o → cur'[k]? = cur[k]?
  | [], o, w, cur, h => ⟨cur, h, rfl, fun _ _ => rfl⟩
  | v :: r, o, w, cur, h => by
    obtain ⟨cur', h1, h2, h3⟩ := heap_setCells r (o + 1) (w.setCell ⟨g, o, none⟩ v) _ (heap_set h)
    refine ⟨cur', h1, by rw [h2]; simp, fun k hk => ?_⟩
    rw [h3 k (by omega), Array.getElem?_setIfInBounds, if_neg (by omega)]
theorem RowE.cleared {w : World} {g m o : Nat} {fs : List En} {vs : List Value} (h : RowE w g m fs.length fs) (ho : fs.length * 4 ≤ o) : RowE (w.setCells g o vs) g m fs.length fs := by
  obtain ⟨cur, hh, hs, hc⟩ := h
  obtain ⟨cur', h1, h2, h3⟩ := heap_setCells vs o w cur hh
  refine ⟨cur', h1, by omega, fun i hi hl => ?_⟩
  obtain ⟨c0, c1, c2, c3⟩ := hc i hi hl
  exact ⟨(h3 _ (by omega)).trans c0, (h3 _ (by omega)).trans c1, (h3 _ (by omega)).trans c2, (h3 _ (by omega)).trans c3⟩
end Go.Proofs.YtiknkjhdieepbaaDoor

/-
  The walks of the program's TreeDrop: the closure, IndexFunc, DeleteFunc.
-/
namespace Go.Proofs.YtiknkjhdieepbaaDoor
open Go.RowKit
set_option linter.unusedVariables false
set_option linter.unusedSimpArgs false
attribute [local go_sem] mkB_size mkB_extract mkB_get mkB_append mkB_append_raw raw_append_mkB mkB_toList

/-- the path lies in its box -/
def PBox (w : World) (pb : Nat) (p : List UInt8) : Prop := pb < w.heap.size ∧ w.cell? ⟨pb, 0, none⟩ = some (.string (mkB p))
theorem PBox.below {w w' : World} {pb n : Nat} {p : List UInt8} (h : PBox w pb p) (hB : Below n w w') (hn : pb < n) : PBox w' pb p :=
  ⟨by have := hB.block pb hn; have h1 := h.1; rw [Array.getElem?_eq_getElem h1] at this; exact (Array.getElem?_eq_some_iff.1 this).1, (cell_same (hB.block pb hn) _).trans h.2⟩

/-- the first that goes, or the end -/
def firstGo (es : List En) (p : List UInt8) : Nat := es.findIdx (fun e => pathIn p e.path)
end Go.Proofs.YtiknkjhdieepbaaDoor

/-
  The walk of slices.DeleteFunc at entries.
-/
namespace Go.Proofs.YtiknkjhdieepbaaDoor
open Go.RowKit
set_option linter.unusedVariables false
set_option linter.unusedSimpArgs false
attribute [local go_sem] mkB_size mkB_extract mkB_get mkB_append mkB_append_raw raw_append_mkB mkB_toList

theorem PBox.gr {w w' : World} {pb g : Nat} {p : List UInt8} (h : PBox w pb p) (hg : w.grownBy w' (some g)) (hne : pb ≠ g) : PBox w' pb p := by
  have hb := hg.block pb h.1 (fun e => hne (by injection e))
  exact ⟨Nat.lt_of_lt_of_le h.1 hg.size, (cell_same hb _).trans h.2⟩
theorem gr_cells {w a : World} {g : Nat} (h : w.grownBy a (some g)) : ∀ (o : Nat) (vs : List Value), w.grownBy (a.setCells g o vs) (some g) := by
  intro o vs
  induction vs generalizing o a with
  | nil => exact h
  | cons v r ih => exact ih (gr_set h o v) (o + 1)
def keeps (p : List UInt8) (e : En) : Bool := !pathIn p e.path
theorem zeros_one (n : Nat) : ∀ u ∈ (Builtin.zeroCells (Value.cells (.agg #[.string { data := #[] }, .int .i64 0, .int .i64 0, .string { data := #[] }])) n).toList, u.oneCell' = true := by
  intro u hu
  simp only [Builtin.zeroCells, Array.toList_map, List.mem_map] at hu
  obtain ⟨i, _, rfl⟩ := hu
  have : i % 4 = 0 ∨ i % 4 = 1 ∨ i % 4 = 2 ∨ i % 4 = 3 := by omega
  have hsz : (Value.cells (.agg #[.string { data := #[] }, .int .i64 0, .int .i64 0, .string { data := #[] }])).size = 4 := rfl
  rw [hsz]
  rcases this with h | h | h | h <;> rw [h] <;> rfl
theorem zeros_len (n : Nat) : (Builtin.zeroCells (Value.cells (.agg #[.string { data := #[] }, .int .i64 0, .int .i64 0, .string { data := #[] }])) n).toList.length = n * 4 := by
  simp only [Builtin.zeroCells, Array.length_toList, Array.size_map, Array.size_range]
  rfl

set_option maxRecDepth 1000000 in
theorem zeroE (W : World) : (zeroValue 30).run Tryd.prog W = .ok (.agg #[.string { data := #[] }, .int .i64 0, .int .i64 0, .string { data := #[] }]) W := by
  obtain ⟨i0, hi, hz0, hz1, hz2⟩ := info_parts infoE
  simp [zeroValue, typeInfo, hi, hz0]
def zerosE (n : Nat) : List Value := (Builtin.zeroCells (Value.cells (.agg #[.string { data := #[] }, .int .i64 0, .int .i64 0, .string { data := #[] }])) n).toList
set_option maxRecDepth 1000000 in
theorem clearE (W : World) (g o n c : Nat) (ty : TypeId) (hn : 0 < n) (hc : ∀ j, j < n * 4 → ∃ v, W.cell? ⟨g, o + j, none⟩ = some v) (hf : ∀ j, j < n * 4 → W.frozen? ⟨g, o + j, none⟩ = false) :
    (Builtin.clear_ #[23] ty #[.slice (some ⟨g, o, none⟩) n c]).run Tryd.prog W = .ok (.tuple #[]) (W.setCells g o (zerosE n)) := by
  have hl : (zerosE n).length = n * 4 := zeros_len n
  have hst := run_storeCells_cells (P := Tryd.prog) g o (zerosE n) 0 W (fun j hj => by obtain ⟨v, hv⟩ := hc j (by omega); rw [Nat.add_zero, hv]; rfl) (fun j hj => by rw [Nat.add_zero]; exact hf j (by omega)) (zeros_one n)
  simp only [Nat.add_zero] at hst
  unfold zerosE at hst ⊢
  obtain ⟨q, rfl⟩ : ∃ q, n = q + 1 := ⟨n - 1, by omega⟩
  simp [Builtin.clear_, run_underlying Tryd.underlying23, zeroE, hst]

end Go.Proofs.YtiknkjhdieepbaaDoor

/-
  The walk of the program's TreeDrop.
-/
namespace Go.Proofs.YtiknkjhdieepbaaDoor
open Go.RowKit
set_option linter.unusedVariables false
set_option linter.unusedSimpArgs false
attribute [local go_sem] mkB_size mkB_extract mkB_get mkB_append mkB_append_raw raw_append_mkB mkB_toList

noncomputable def treeDrop (es : List En) (p : List UInt8) : List En × Bool := if treeOk es = true then (if there es p = true then (dropL es p, true) else (es, false)) else ([], false)
theorem treeDrop_bad {es : List En} {p : List UInt8} (h : treeOk es = false) : treeDrop es p = ([], false) := by unfold treeDrop; rw [h]; rfl
theorem treeDrop_no {es : List En} {p : List UInt8} (h : treeOk es = true) (h2 : there es p = false) : treeDrop es p = (es, false) := by unfold treeDrop; rw [h, h2]; rfl
theorem treeDrop_yes {es : List En} {p : List UInt8} (h : treeOk es = true) (h2 : there es p = true) : treeDrop es p = (dropL es p, true) := by unfold treeDrop; rw [h, h2]; rfl
theorem keeps_drop {es : List En} {p : List UInt8} (h : treeOk es = true) (h2 : there es p = true) : es.filter (keeps p) = dropL es p := by
  unfold dropL
  refine List.filter_congr (fun e he => ?_)
  obtain ⟨i, hi, rfl⟩ := List.getElem_of_mem he
  unfold keeps
  rw [stays_in h h2 hi]
  simp
/-- entries of the call's own and a word on them were handed back -/
def ResE (x : List En × Bool) (w : World) (r : Ending) (w' : World) : Prop := ∃ A c', r = .returned (.tuple #[.slice A x.1.length c', .bool x.2]) ∧ OwnE w' w.heap.size A x.1 ∧ Below w.heap.size w w'

end Go.Proofs.YtiknkjhdieepbaaDoor

/-
  The walks of the reference's l2Drop and TreeDrop.
-/
namespace Go.Proofs.YtiknkjhdieepbaaDoor
open Go.RowKit
set_option linter.unusedVariables false
set_option linter.unusedSimpArgs false
attribute [local go_sem] mkB_size mkB_extract mkB_get mkB_append mkB_append_raw raw_append_mkB mkB_toList

theorem cellsE_one (e : En) : ∀ u ∈ cellsE e, u.oneCell' = true := by
  intro u hu
  simp only [cellsE, List.mem_cons, List.not_mem_nil, or_false] at hu
  rcases hu with rfl | rfl | rfl | rfl <;> rfl
theorem flatE_snoc (es : List En) (e : En) : flatE (es ++ [e]) = flatE es ++ cellsE e := by rw [flatE_append]; simp [flatE]

end Go.Proofs.YtiknkjhdieepbaaDoor

