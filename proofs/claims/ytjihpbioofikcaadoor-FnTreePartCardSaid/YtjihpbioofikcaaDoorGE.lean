/-
  DropP, DropI, DropD, DropT, DropS: merged.
-/
import Derived.Test.YtjihpbioofikcaaDoorGF
import Derived.Test.YtjihpbioofikcaaDoorCopyE
import Derived.Laws.IdiomCopy
/-
  Dropping, plainly.
-/
namespace Go.Proofs.YtjihpbioofikcaaDoor
open Go.RowKit
set_option linter.unusedVariables false
set_option linter.unusedSimpArgs false

/-- what is left behind a drop -/
def stays (p : List UInt8) (e : En) : Bool := !below p e.path
def dropL (es : List En) (p : List UInt8) : List En := es.filter (stays p)
/-- the entries of a tree are below a place that is there just if they are in it -/
theorem stays_in {es : List En} {p : List UInt8} (ht : treeOk es = true) (hth : there es p = true) {i : Nat} (hi : i < es.length) : pathIn p es[i].path = !stays p es[i] := by
  have hT := treeOk_is ht
  obtain ⟨hk, he⟩ := there_iff.1 hth
  have hp : pathOk p = true := by rw [← he]; exact entryOk_path (hT.ok _ hk)
  have hq : pathOk es[i].path = true := entryOk_path (hT.ok i hi)
  unfold stays pathIn
  rw [hp, hq]
  simp
theorem filter_take {q : En → Bool} {es : List En} {j : Nat} (hj : j < es.length) : (es.take (j + 1)).filter q = (es.take j).filter q ++ (if q es[j] then [es[j]] else []) := by
  rw [List.take_succ_eq_append_getElem hj, List.filter_append]
  congr 1
  cases h : q es[j] <;> simp [h]
theorem filter_take_le (q : En → Bool) (es : List En) (j : Nat) : ((es.take j).filter q).length ≤ j := by
  refine Nat.le_trans (List.length_filter_le _ _) ?_
  simp; omega
theorem filter_all {q : En → Bool} {es : List En} {j : Nat} (h : ∀ i (hi : i < es.length), i < j → q es[i] = true) (hj : j ≤ es.length) : (es.take j).filter q = es.take j := by
  rw [List.filter_eq_self]
  intro e he
  obtain ⟨i, hi, rfl⟩ := List.getElem_of_mem he
  simp only [List.length_take] at hi
  simpa using h i (by omega) (by omega)
/-- a row: first what was taken, then what is still to come -/
def Row2 (w : World) (g m : Nat) (fs es : List En) (j : Nat) : Prop := ∃ cur : Array Value, w.heap[g]? = some (.cells cur 31 (0, 0)) ∧ cur.size = m * 4 ∧
  (∀ i (h : i < fs.length), cur[i * 4]? = some (.string (mkB fs[i].path)) ∧ cur[i * 4 + 1]? = some (.int .i64 fs[i].kind) ∧ cur[i * 4 + 2]? = some (.int .i64 fs[i].mode) ∧ cur[i * 4 + 3]? = some (.string (mkB fs[i].text))) ∧
  (∀ i (h : i < es.length), j ≤ i → cur[i * 4]? = some (.string (mkB es[i].path)) ∧ cur[i * 4 + 1]? = some (.int .i64 es[i].kind) ∧ cur[i * 4 + 2]? = some (.int .i64 es[i].mode) ∧ cur[i * 4 + 3]? = some (.string (mkB es[i].text)))
theorem Row2.start {w : World} {g m j : Nat} {es : List En} (h : RowE w g m es.length es) : Row2 w g m (es.take j) es j := by
  obtain ⟨cur, hh, hs, hc⟩ := h
  refine ⟨cur, hh, hs, fun i hi => ?_, fun i hi _ => hc i hi hi⟩
  simp only [List.length_take] at hi
  simpa using hc i (by omega) (by omega)
theorem Row2.skip {w : World} {g m j : Nat} {fs es : List En} (h : Row2 w g m fs es j) : Row2 w g m fs es (j + 1) := by
  obtain ⟨cur, hh, hs, hc, hd⟩ := h
  exact ⟨cur, hh, hs, hc, fun i hi hj => hd i hi (by omega)⟩
theorem Row2.below {w w' : World} {g m j n : Nat} {fs es : List En} (h : Row2 w g m fs es j) (hB : Below n w w') (hg : g < n) : Row2 w' g m fs es j := by
  obtain ⟨cur, hh, hs⟩ := h
  exact ⟨cur, (hB.block g hg).trans hh, hs⟩
theorem Row2.lt {w : World} {g m j : Nat} {fs es : List En} (h : Row2 w g m fs es j) : g < w.heap.size := by
  obtain ⟨cur, hh, _⟩ := h
  exact (Array.getElem?_eq_some_iff.1 hh).1
theorem Row2.room {w : World} {g m j : Nat} {fs es : List En} (h : Row2 w g m fs es j) {k : Nat} (hk : k < m * 4) : ∃ v, w.cell? ⟨g, k, none⟩ = some v := by
  obtain ⟨cur, hh, hs, _⟩ := h
  exact ⟨cur[k]'(by omega), by rw [row_cell _ _ _ _ _ _ hh, Array.getElem?_eq_getElem (by omega)]⟩
theorem Row2.frozen {w : World} {g m j : Nat} {fs es : List En} (h : Row2 w g m fs es j) (k : Nat) : w.frozen? ⟨g, k, none⟩ = false := by
  obtain ⟨cur, hh, hs, _⟩ := h
  simp [World.frozen?, hh]
theorem Row2.next {w : World} {g m j : Nat} {fs es : List En} (h : Row2 w g m fs es j) {i : Nat} (hi : i < es.length) (hj : j ≤ i) :
    w.cell? ⟨g, i * 4, none⟩ = some (.string (mkB es[i].path)) ∧ w.cell? ⟨g, i * 4 + 1, none⟩ = some (.int .i64 es[i].kind) ∧ w.cell? ⟨g, i * 4 + 2, none⟩ = some (.int .i64 es[i].mode) ∧ w.cell? ⟨g, i * 4 + 3, none⟩ = some (.string (mkB es[i].text)) := by
  obtain ⟨cur, hh, hs, _, hd⟩ := h
  obtain ⟨c0, c1, c2, c3⟩ := hd i hi hj
  exact ⟨by rw [row_cell _ _ _ _ _ _ hh]; exact c0, by rw [row_cell _ _ _ _ _ _ hh]; exact c1, by rw [row_cell _ _ _ _ _ _ hh]; exact c2, by rw [row_cell _ _ _ _ _ _ hh]; exact c3⟩
theorem Row2.row {w : World} {g m j : Nat} {fs es : List En} (h : Row2 w g m fs es j) : RowE w g m fs.length fs := by
  obtain ⟨cur, hh, hs, hc, _⟩ := h
  exact ⟨cur, hh, hs, fun i hi _ => hc i hi⟩
/-- element j is written behind what was taken -/
theorem Row2.put {w : World} {g m j k : Nat} {fs es : List En} (h : Row2 w g m fs es j) (hk : fs.length = k) (hkj : k ≤ j) (hj : j < es.length) (hm : es.length ≤ m) :
    Row2 ((((w.setCell ⟨g, k * 4, none⟩ (.string (mkB es[j].path))).setCell ⟨g, k * 4 + 1, none⟩ (.int .i64 es[j].kind)).setCell ⟨g, k * 4 + 2, none⟩ (.int .i64 es[j].mode)).setCell ⟨g, k * 4 + 3, none⟩ (.string (mkB es[j].text))) g m (fs ++ [es[j]]) es (j + 1) := by
  obtain ⟨cur, hh, hs, hc, hd⟩ := h
  refine ⟨_, heap_set (heap_set (heap_set (heap_set hh))), by simp [hs], fun i hi => ?_, fun i hi hij => ?_⟩
  · simp only [Array.getElem?_setIfInBounds, Array.size_setIfInBounds, hs]
    simp only [List.length_append, List.length_cons, List.length_nil] at hi
    rcases Nat.lt_or_ge i k with h1 | h1
    · obtain ⟨c0, c1, c2, c3⟩ := hc i (by omega)
      rw [List.getElem_append_left (by omega)]
      refine ⟨?_, ?_, ?_, ?_⟩
      · rw [if_neg (by omega), if_neg (by omega), if_neg (by omega), if_neg (by omega)]; exact c0
      · rw [if_neg (by omega), if_neg (by omega), if_neg (by omega), if_neg (by omega)]; exact c1
      · rw [if_neg (by omega), if_neg (by omega), if_neg (by omega), if_neg (by omega)]; exact c2
      · rw [if_neg (by omega), if_neg (by omega), if_neg (by omega), if_neg (by omega)]; exact c3
    · obtain rfl : i = k := by omega
      rw [List.getElem_append_right (by omega)]
      simp only [hk, Nat.sub_self, List.getElem_cons_zero]
      refine ⟨?_, ?_, ?_, ?_⟩
      · rw [if_neg (by omega), if_neg (by omega), if_neg (by omega), if_pos (by first | trivial | rfl), if_pos (by omega)]
      · rw [if_neg (by omega), if_neg (by omega), if_pos (by first | trivial | rfl), if_pos (by omega)]
      · rw [if_neg (by omega), if_pos (by first | trivial | rfl), if_pos (by omega)]
      · rw [if_pos (by first | trivial | rfl), if_pos (by omega)]
  · simp only [Array.getElem?_setIfInBounds, Array.size_setIfInBounds, hs]
    obtain ⟨c0, c1, c2, c3⟩ := hd i hi (by omega)
    refine ⟨?_, ?_, ?_, ?_⟩
    · rw [if_neg (by omega), if_neg (by omega), if_neg (by omega), if_neg (by omega)]; exact c0
    · rw [if_neg (by omega), if_neg (by omega), if_neg (by omega), if_neg (by omega)]; exact c1
    · rw [if_neg (by omega), if_neg (by omega), if_neg (by omega), if_neg (by omega)]; exact c2
    · rw [if_neg (by omega), if_neg (by omega), if_neg (by omega), if_neg (by omega)]; exact c3
/-- what lies behind a cell is cleared: what lies before it stays -/
theorem heap_setCells {g : Nat} {t : TypeId} : ∀ (vs : List Value) (o : Nat) (w : World) (cur : Array Value), w.heap[g]? = some (.cells cur t (0, 0)) →
    ∃ cur' : Array Value, (w.setCells g o vs).heap[g]? = some (.cells cur' t (0, 0)) ∧ cur'.size = cur.size ∧ ∀ k, k < o → cur'[k]? = cur[k]?
  | [], o, w, cur, h => ⟨cur, h, rfl, fun _ _ => rfl⟩
  | v :: r, o, w, cur, h => by
    obtain ⟨cur', h1, h2, h3⟩ := heap_setCells r (o + 1) (w.setCell ⟨g, o, none⟩ v) _ (heap_set h)
    refine ⟨cur', h1, by rw [h2]; simp, fun k hk => ?_⟩
    rw [h3 k (by omega), Array.getElem?_setIfInBounds, if_neg (by omega)]
theorem RowE.cleared {w : World} {g m o : Nat} {fs : List En} {vs : List Value} (h : RowE w g m fs.length fs) (ho : fs.length * 4 ≤ o) : RowE (w.setCells g o vs) g m fs.length fs := by
  obtain ⟨cur, hh, hs, hc⟩ := h
  obtain ⟨cur', h1, h2, h3⟩ := heap_setCells vs o w cur hh
  refine ⟨cur', h1, by omega, fun i hi hl => ?_⟩
  obtain ⟨c0, c1, c2, c3⟩ := hc i hi hl
  exact ⟨(h3 _ (by omega)).trans c0, (h3 _ (by omega)).trans c1, (h3 _ (by omega)).trans c2, (h3 _ (by omega)).trans c3⟩
end Go.Proofs.YtjihpbioofikcaaDoor

/-
  The walks of the program's TreeDrop: the closure, IndexFunc, DeleteFunc.
-/
namespace Go.Proofs.YtjihpbioofikcaaDoor
open Go.RowKit
set_option linter.unusedVariables false
set_option linter.unusedSimpArgs false
attribute [local go_sem] mkB_size mkB_extract mkB_get mkB_append mkB_append_raw raw_append_mkB mkB_toList

/-- the path lies in its box -/
def PBox (w : World) (pb : Nat) (p : List UInt8) : Prop := pb < w.heap.size ∧ w.cell? ⟨pb, 0, none⟩ = some (.string (mkB p))
theorem PBox.below {w w' : World} {pb n : Nat} {p : List UInt8} (h : PBox w pb p) (hB : Below n w w') (hn : pb < n) : PBox w' pb p :=
  ⟨by have := hB.block pb hn; have h1 := h.1; rw [Array.getElem?_eq_getElem h1] at this; exact (Array.getElem?_eq_some_iff.1 this).1, (cell_same (hB.block pb hn) _).trans h.2⟩

set_option maxRecDepth 1000000 in
set_option maxHeartbeats 2000000 in
theorem del_any (e : En) (p : List UInt8) (pb : Nat) (w : World) (hP : PBox w pb p) (hp : p.length ≤ 1048576) (he : e.path.length ≤ 1048576) :
    Calls Tryd.prog 76 #[enV e, .pointer (some ⟨pb, 0, none⟩)] w fun r w' => r = .returned (.bool (pathIn p e.path)) ∧ Below w.heap.size w w' := by
  obtain ⟨ep, kind, mode, t⟩ := e
  simp only at he ⊢
  obtain ⟨hl, hc⟩ := hP
  go_enter Tryd.func76, Tryd.ntmps76
  go_wp2_with fail
  refine (PathIn_any p ep (by omega) (by omega) _).mono ?_
  rintro r w1 ⟨rfl, hB⟩
  go_wp2
  go_ret
  exact ⟨rfl, ((Below.refl _ _).alloc (Nat.le_refl _) _).trans (hB.mono (by simp))⟩

/-- the first that goes, or the end -/
def firstGo (es : List En) (p : List UInt8) : Nat := es.findIdx (fun e => pathIn p e.path)
set_option maxRecDepth 1000000 in
set_option maxHeartbeats 8000000 in
theorem indexFunc_any (es : List En) (p : List UInt8) (pb g c : Nat) (w : World) (hE : Ents w g es) (hsm : Small es) (hP : PBox w pb p) (hp : p.length ≤ 1048576) :
    Calls Tryd.prog 109 #[.slice (some ⟨g, 0, none⟩) es.length c, .func (.func 76) #[] #[.pointer (some ⟨pb, 0, none⟩)]] w
      fun r w' => (∃ k, k ≤ es.length ∧ (∀ i (hi : i < es.length), i < k → pathIn p es[i].path = false) ∧ ((k < es.length ∧ (∀ hk : k < es.length, pathIn p es[k].path = true) ∧ r = .returned (.int .i64 k)) ∨ (k = es.length ∧ r = .returned (.int .i64 (-1))))) ∧ Below w.heap.size w w' := by
  have hEh := Lib.hid hE
  have hsh := Lib.hid hsm
  have hPh := Lib.hid hP
  have hg := hE.1
  have hpb := hP.1
  have hlen := hsm.1
  clear hE hsm hP
  go_enter Tryd.func109, Tryd.ntmps109
  go_wp2
  go_loopw [8] (fun i wr => ∃ k : Nat, k ≤ es.length ∧ i = .int .i64 k ∧ Hid (∀ i (hi : i < es.length), i < k → pathIn p es[i].path = false) ∧ Below w.heap.size w wr) (fun i _ => es.length - (intOf i).toNat)
  case atStart => exact ⟨0, Nat.zero_le _, rfl, Lib.hid (fun i hi h => by omega), Below.refl _ _⟩
  case round =>
    obtain ⟨k, hk, rfl, hall, hB1⟩ := hrel
    by_cases hlt : k < es.length
    · obtain ⟨c0, c1, c2, c3⟩ := (hEh.out.below hB1 hg).2 k hlt
      have hP1 := Lib.hid (hPh.out.below hB1 hpb)
      have hkI : (k : Int) < (es.length : Int) := by omega
      have hpl := (hsh.out.2 k hlt).1
      rcases boolOf (pathIn p es[k].path) with hb | hb
      · go_wp2_with (go_at_call 76; refine (del_any es[k] p pb _ hP1.out hp hpl).mono ?_; rintro r w2 ⟨rfl, hB2⟩; rw [hb.out])
        go_round
        case rel => exact ⟨k + 1, by omega, by go_num, Lib.hid (fun i hi h => by
          rcases Nat.lt_or_ge i k with h1 | h1
          · exact hall.out i hi h1
          · obtain rfl : i = k := by omega
            exact hb.out), hB1.trans (hB2.mono hB1.size)⟩
        case measure => simp [intOf]; omega
      · go_wp2_with (go_at_call 76; refine (del_any es[k] p pb _ hP1.out hp hpl).mono ?_; rintro r w2 ⟨rfl, hB2⟩; rw [hb.out])
        go_ret
        exact ⟨⟨k, hk, hall.out, .inl ⟨hlt, fun _ => hb.out, rfl⟩⟩, hB1.trans (hB2.mono hB1.size)⟩
    · obtain rfl : k = es.length := by omega
      go_wp2
      go_ret
      exact ⟨⟨es.length, Nat.le_refl _, hall.out, .inr ⟨rfl, rfl⟩⟩, hB1⟩
end Go.Proofs.YtjihpbioofikcaaDoor

/-
  The walk of slices.DeleteFunc at entries.
-/
namespace Go.Proofs.YtjihpbioofikcaaDoor
open Go.RowKit
set_option linter.unusedVariables false
set_option linter.unusedSimpArgs false
attribute [local go_sem] mkB_size mkB_extract mkB_get mkB_append mkB_append_raw raw_append_mkB mkB_toList

theorem PBox.gr {w w' : World} {pb g : Nat} {p : List UInt8} (h : PBox w pb p) (hg : w.grownBy w' (some g)) (hne : pb ≠ g) : PBox w' pb p := by
  have hb := hg.block pb h.1 (fun e => hne (by injection e))
  exact ⟨Nat.lt_of_lt_of_le h.1 hg.size, (cell_same hb _).trans h.2⟩
theorem gr_cells {w a : World} {g : Nat} (h : w.grownBy a (some g)) : ∀ (o : Nat) (vs : List Value), w.grownBy (a.setCells g o vs) (some g) := by
  intro o vs
  induction vs generalizing o a with
  | nil => exact h
  | cons v r ih => exact ih (gr_set h o v) (o + 1)
def keeps (p : List UInt8) (e : En) : Bool := !pathIn p e.path
theorem zeros_one (n : Nat) : ∀ u ∈ (Builtin.zeroCells (Value.cells (.agg #[.string { data := #[] }, .int .i64 0, .int .i64 0, .string { data := #[] }])) n).toList, u.oneCell' = true := by
  intro u hu
  simp only [Builtin.zeroCells, Array.toList_map, List.mem_map] at hu
  obtain ⟨i, _, rfl⟩ := hu
  have : i % 4 = 0 ∨ i % 4 = 1 ∨ i % 4 = 2 ∨ i % 4 = 3 := by omega
  have hsz : (Value.cells (.agg #[.string { data := #[] }, .int .i64 0, .int .i64 0, .string { data := #[] }])).size = 4 := rfl
  rw [hsz]
  rcases this with h | h | h | h <;> rw [h] <;> rfl
theorem zeros_len (n : Nat) : (Builtin.zeroCells (Value.cells (.agg #[.string { data := #[] }, .int .i64 0, .int .i64 0, .string { data := #[] }])) n).toList.length = n * 4 := by
  simp only [Builtin.zeroCells, Array.length_toList, Array.size_map, Array.size_range]
  rfl

set_option maxRecDepth 1000000 in
theorem zeroE (W : World) : (zeroValue 31).run Tryd.prog W = .ok (.agg #[.string { data := #[] }, .int .i64 0, .int .i64 0, .string { data := #[] }]) W := by
  obtain ⟨i0, hi, hz0, hz1, hz2⟩ := info_parts infoE
  simp [zeroValue, typeInfo, hi, hz0]
def zerosE (n : Nat) : List Value := (Builtin.zeroCells (Value.cells (.agg #[.string { data := #[] }, .int .i64 0, .int .i64 0, .string { data := #[] }])) n).toList
set_option maxRecDepth 1000000 in
theorem clearE (W : World) (g o n c : Nat) (ty : TypeId) (hn : 0 < n) (hc : ∀ j, j < n * 4 → ∃ v, W.cell? ⟨g, o + j, none⟩ = some v) (hf : ∀ j, j < n * 4 → W.frozen? ⟨g, o + j, none⟩ = false) :
    (Builtin.clear_ #[27] ty #[.slice (some ⟨g, o, none⟩) n c]).run Tryd.prog W = .ok (.tuple #[]) (W.setCells g o (zerosE n)) := by
  have hl : (zerosE n).length = n * 4 := zeros_len n
  have hst := run_storeCells_cells (P := Tryd.prog) g o (zerosE n) 0 W (fun j hj => by obtain ⟨v, hv⟩ := hc j (by omega); rw [Nat.add_zero, hv]; rfl) (fun j hj => by rw [Nat.add_zero]; exact hf j (by omega)) (zeros_one n)
  simp only [Nat.add_zero] at hst
  unfold zerosE at hst ⊢
  obtain ⟨q, rfl⟩ : ∃ q, n = q + 1 := ⟨n - 1, by omega⟩
  simp [Builtin.clear_, run_underlying Tryd.underlying27, zeroE, hst]

set_option maxRecDepth 1000000 in
set_option maxHeartbeats 8000000 in
theorem deleteFunc_any (es : List En) (p : List UInt8) (pb g m c : Nat) (w : World) (hR : RowE w g m es.length es) (hlm : es.length ≤ m) (hmc : es.length ≤ c) (hsm : Small es) (hP : PBox w pb p) (hpg : pb ≠ g) (hp : p.length ≤ 1048576) :
    Calls Tryd.prog 75 #[.slice (some ⟨g, 0, none⟩) es.length c, .func (.func 76) #[] #[.pointer (some ⟨pb, 0, none⟩)]] w
      fun r w' => r = .returned (.slice (some ⟨g, 0, none⟩) (es.filter (keeps p)).length c) ∧ RowE w' g m (es.filter (keeps p)).length (es.filter (keeps p)) ∧ w.grownBy w' (some g) := by
  have hRh := Lib.hid hR
  have hsh := Lib.hid hsm
  have hPh := Lib.hid hP
  have hlen := hsm.1
  have hgl := hR.lt
  have hpl0 := hP.1
  clear hR hsm hP
  go_enter Tryd.func75, Tryd.ntmps75
  go_wp2_with fail
  refine (indexFunc_any es p pb g c _ hRh.out.ents hsh.out hPh.out hp).mono ?_
  rintro r w1 ⟨⟨k, hk, hall, hend⟩, hB1⟩
  replace hall := Lib.hid hall
  rcases hend with ⟨hkl, hgo, rfl⟩ | ⟨hke, rfl⟩
  case inr =>
    have hf : es.filter (keeps p) = es := by
      rw [List.filter_eq_self]
      intro e he
      obtain ⟨i, hi, rfl⟩ := List.getElem_of_mem he
      unfold keeps
      rw [hall.out i hi (by omega)]
      rfl
    replace hf := Lib.hid hf
    replace hke := Lib.hid hke
    go_wp2
    go_ret
    rw [hf.out]
    exact ⟨rfl, hRh.out.below hB1 hgl, gr_below (World.grownBy.refl w (some g)) hB1⟩
  have hR1 := Lib.hid (hRh.out.below hB1 hgl)
  have hP1 := Lib.hid (hPh.out.below hB1 hpl0)
  have hgr1 := Lib.hid (gr_below (World.grownBy.refl w (some g)) hB1)
  have hstart : (es.take (k + 1)).filter (keeps p) = es.take k := by
    rw [filter_take hkl, filter_all (fun i hi h => by unfold keeps; rw [hall.out i hi h]; rfl) (by omega)]
    have : keeps p es[k] = false := by unfold keeps; rw [hgo hkl]; rfl
    rw [this]; simp
  have hrow1 : Row2 w1 g m ((es.take (k + 1)).filter (keeps p)) es (k + 1) := by rw [hstart]; exact (Row2.start hR1.out).skip
  have hla : ((es.take (k + 1)).filter (keeps p)).length = k := by rw [hstart]; simp; omega
  replace hstart := Lib.hid hstart
  replace hrow1 := Lib.hid hrow1
  replace hla := Lib.hid hla
  replace hgo := Lib.hid hgo
  clear hRh hPh
  have hkm : ((k : Int) == -1) = false := by rw [beq_eq_false_iff_ne]; omega
  go_wp2
  go_loopw [5, 6] (fun ii jj wr => ∃ a j : Nat, ii = .int .i64 a ∧ jj = .int .i64 j ∧ a < j ∧ j ≤ es.length ∧ Hid (((es.take j).filter (keeps p)).length = a) ∧ Hid (Row2 wr g m ((es.take j).filter (keeps p)) es j) ∧ Hid (PBox wr pb p) ∧ Hid (w.grownBy wr (some g))) (fun _ jj _ => es.length - (intOf jj).toNat)
  case atStart => exact ⟨k, k + 1, rfl, by go_num, by omega, by omega, hla, hrow1, hP1, hgr1⟩
  case round =>
    clear hrow1 hla hP1 hgr1 hR1 hstart
    obtain ⟨a, j, rfl, rfl, haj, hjl, hal, hrow, hPr, hgr⟩ := hrel
    by_cases hlt : j < es.length
    · obtain ⟨c0, c1, c2, c3⟩ := hrow.out.next hlt (Nat.le_refl _)
      have hjI : (j : Int) < (es.length : Int) := by omega
      have haI : (a : Int) < (es.length : Int) := by omega
      have hpl := (hsh.out.2 j hlt).1
      have hPl := hPr.out.1
      have hrl := hrow.out.lt
      rcases boolOf (pathIn p es[j].path) with hb | hb
      · have hkp : keeps p es[j] = true := by unfold keeps; rw [hb.out]; rfl
        have hnx : (es.take (j + 1)).filter (keeps p) = (es.take j).filter (keeps p) ++ [es[j]] := by rw [filter_take hlt, hkp]; rfl
        replace hnx := Lib.hid hnx
        replace hkp := Lib.hid hkp
        go_wp2_with fail
        obtain ⟨Wb, hWb⟩ : ∃ X, wr.alloc (.cells #[.string (mkB es[j].path), .int .i64 es[j].kind, .int .i64 es[j].mode, .string (mkB es[j].text)] 31) = X := ⟨_, rfl⟩
        have hbx : Box4 Wb wr.heap.size 31 (.string (mkB es[j].path)) (.int .i64 es[j].kind) (.int .i64 es[j].mode) (.string (mkB es[j].text)) := by rw [← hWb]; exact Box4.new _ _ _ _ _ _
        have hBb : Below wr.heap.size wr Wb := by rw [← hWb]; exact (Below.refl _ _).alloc (Nat.le_refl _) _
        have hPb := Lib.hid (hPr.out.below hBb hPl)
        have hrb := Lib.hid (hrow.out.below hBb hrl)
        have hgb := Lib.hid (gr_below hgr.out hBb)
        rw [hWb]
        refine (del_any es[j] p pb _ hPb.out hp hpl).mono ?_
        rintro r w2 ⟨rfl, hB⟩
        rw [hb.out]
        have hbx2 := hbx.below hB hbx.lt
        have hP2 := Lib.hid (hPb.out.below hB hPb.out.1)
        have hrow2 := Lib.hid (hrb.out.below hB hrb.out.lt)
        have hgr2 := Lib.hid (gr_below hgb.out hB)
        clear hWb hBb
        clear c0 c1 c2 c3
        obtain ⟨r0, x0⟩ := hrow2.out.room (k := a * 4) (by omega)
        obtain ⟨r1, x1⟩ := hrow2.out.room (k := a * 4 + 1) (by omega)
        obtain ⟨r2, x2⟩ := hrow2.out.room (k := a * 4 + 2) (by omega)
        obtain ⟨r3, x3⟩ := hrow2.out.room (k := a * 4 + 3) (by omega)
        have f0 := hrow2.out.frozen (a * 4)
        have f1 := hrow2.out.frozen (a * 4 + 1)
        have f2 := hrow2.out.frozen (a * 4 + 2)
        have f3 := hrow2.out.frozen (a * 4 + 3)
        have d0 := hbx2.cell0
        have d1 := hbx2.cell1
        have d2 := hbx2.cell2
        have d3 := hbx2.cell3
        go_wp2
        go_round
        case rel =>
          have hput := hrow2.out.put hal.out (by omega) hlt hlm
          rw [← hnx.out] at hput
          have hg5 := gr_set (gr_set (gr_set (gr_set hgr2.out (a * 4) (.string (mkB es[j].path))) (a * 4 + 1) (.int .i64 es[j].kind)) (a * 4 + 2) (.int .i64 es[j].mode)) (a * 4 + 3) (.string (mkB es[j].text))
          have hP5 := hP2.out.gr (gr_set (gr_set (gr_set (gr_set (World.grownBy.refl w2 (some g)) (a * 4) (.string (mkB es[j].path))) (a * 4 + 1) (.int .i64 es[j].kind)) (a * 4 + 2) (.int .i64 es[j].mode)) (a * 4 + 3) (.string (mkB es[j].text))) hpg
          exact ⟨a + 1, j + 1, by go_num, by go_num, by omega, by omega, Lib.hid (by rw [hnx.out, List.length_append, hal.out]; rfl), Lib.hid hput, Lib.hid hP5, Lib.hid hg5⟩
        case measure => simp [intOf]; omega
      · have hkp : keeps p es[j] = false := by unfold keeps; rw [hb.out]; rfl
        have hnx : (es.take (j + 1)).filter (keeps p) = (es.take j).filter (keeps p) := by rw [filter_take hlt, hkp]; simp
        replace hnx := Lib.hid hnx
        replace hkp := Lib.hid hkp
        go_wp2_with fail
        obtain ⟨Wb, hWb⟩ : ∃ X, wr.alloc (.cells #[.string (mkB es[j].path), .int .i64 es[j].kind, .int .i64 es[j].mode, .string (mkB es[j].text)] 31) = X := ⟨_, rfl⟩
        have hbx : Box4 Wb wr.heap.size 31 (.string (mkB es[j].path)) (.int .i64 es[j].kind) (.int .i64 es[j].mode) (.string (mkB es[j].text)) := by rw [← hWb]; exact Box4.new _ _ _ _ _ _
        have hBb : Below wr.heap.size wr Wb := by rw [← hWb]; exact (Below.refl _ _).alloc (Nat.le_refl _) _
        have hPb := Lib.hid (hPr.out.below hBb hPl)
        have hrb := Lib.hid (hrow.out.below hBb hrl)
        have hgb := Lib.hid (gr_below hgr.out hBb)
        rw [hWb]
        refine (del_any es[j] p pb _ hPb.out hp hpl).mono ?_
        rintro r w2 ⟨rfl, hB⟩
        rw [hb.out]
        have hbx2 := hbx.below hB hbx.lt
        have hP2 := Lib.hid (hPb.out.below hB hPb.out.1)
        have hrow2 := Lib.hid (hrb.out.below hB hrb.out.lt)
        have hgr2 := Lib.hid (gr_below hgb.out hB)
        clear hWb hBb
        clear c0 c1 c2 c3
        go_wp2
        go_round
        case rel => exact ⟨a, j + 1, rfl, by go_num, by omega, by omega, Lib.hid (by rw [hnx.out]; exact hal.out), Lib.hid (by rw [hnx.out]; exact hrow2.out.skip), hP2, hgr2⟩
        case measure => simp [intOf]; omega
    · obtain rfl : j = es.length := by omega
      have hfl : (es.take es.length).filter (keeps p) = es.filter (keeps p) := by rw [List.take_length]
      have hRf : RowE wr g m (es.filter (keeps p)).length (es.filter (keeps p)) := by have h := hrow.out.row; rwa [hfl] at h
      have haf : (es.filter (keeps p)).length = a := by have h := hal.out; rwa [hfl] at h
      have hcl := clearE wr g (a * 4) (es.length - a) (c - a) 0 (by omega) (fun k hk => hrow.out.room (by omega)) (fun k hk => hrow.out.frozen _)
      have hRg : RowE (wr.setCells g (a * 4) (zerosE (es.length - a))) g m (es.filter (keeps p)).length (es.filter (keeps p)) := hRf.cleared (by rw [haf]; exact Nat.le_refl _)
      have hgg : w.grownBy (wr.setCells g (a * 4) (zerosE (es.length - a))) (some g) := gr_cells hgr.out _ _
      obtain ⟨wz, hwz⟩ : ∃ wz, wr.setCells g (a * 4) (zerosE (es.length - a)) = wz := ⟨_, rfl⟩
      rw [hwz] at hcl hRg hgg
      replace hwz := Lib.hid hwz
      replace hfl := Lib.hid hfl
      replace haf := Lib.hid haf
      have hac : (a : Int) ≤ (c : Int) := by omega
      have hac2 : a ≤ c := by omega
      replace hRf := Lib.hid hRf
      replace hRg := Lib.hid hRg
      replace hgg := Lib.hid hgg
      go_wp2
      go_ret
      exact ⟨by rw [haf.out]; rfl, hRg.out, hgg.out⟩
end Go.Proofs.YtjihpbioofikcaaDoor

/-
  The walk of the program's TreeDrop.
-/
namespace Go.Proofs.YtjihpbioofikcaaDoor
open Go.RowKit
set_option linter.unusedVariables false
set_option linter.unusedSimpArgs false
attribute [local go_sem] mkB_size mkB_extract mkB_get mkB_append mkB_append_raw raw_append_mkB mkB_toList

noncomputable def treeDrop (es : List En) (p : List UInt8) : List En × Bool := if treeOk es = true then (if there es p = true then (dropL es p, true) else (es, false)) else ([], false)
theorem treeDrop_bad {es : List En} {p : List UInt8} (h : treeOk es = false) : treeDrop es p = ([], false) := by unfold treeDrop; rw [h]; rfl
theorem treeDrop_no {es : List En} {p : List UInt8} (h : treeOk es = true) (h2 : there es p = false) : treeDrop es p = (es, false) := by unfold treeDrop; rw [h, h2]; rfl
theorem treeDrop_yes {es : List En} {p : List UInt8} (h : treeOk es = true) (h2 : there es p = true) : treeDrop es p = (dropL es p, true) := by unfold treeDrop; rw [h, h2]; rfl
theorem keeps_drop {es : List En} {p : List UInt8} (h : treeOk es = true) (h2 : there es p = true) : es.filter (keeps p) = dropL es p := by
  unfold dropL
  refine List.filter_congr (fun e he => ?_)
  obtain ⟨i, hi, rfl⟩ := List.getElem_of_mem he
  unfold keeps
  rw [stays_in h h2 hi]
  simp
/-- entries of the call's own and a word on them were handed back -/
def ResE (x : List En × Bool) (w : World) (r : Ending) (w' : World) : Prop := ∃ A c', r = .returned (.tuple #[.slice A x.1.length c', .bool x.2]) ∧ OwnE w' w.heap.size A x.1 ∧ Below w.heap.size w w'

set_option maxRecDepth 1000000 in
set_option maxHeartbeats 8000000 in
theorem TreeDrop_any (es : List En) (p : List UInt8) (g c : Nat) (w : World) (hE : Ents w g es) (hsm : Small es) (hcap : es.length ≤ c) (hp : p.length ≤ 1048576) :
    Calls Tryd.prog 40 #[.slice (some ⟨g, 0, none⟩) es.length c, .string (mkB p)] w (ResE (treeDrop es p) w) := by
  have hEh := Lib.hid hE
  have hsh := Lib.hid hsm
  have hlen := hsm.1
  clear hE hsm
  have hstart : ∃ W1, w.alloc (.cells #[.string (mkB p)] 9) = W1 ∧ PBox W1 w.heap.size p ∧ Ents W1 g es ∧ Below w.heap.size w W1 ∧ w.heap.size < W1.heap.size := by
    refine ⟨_, rfl, ⟨by simp, ?_⟩, hEh.out.alloc _, (Below.refl _ _).alloc (Nat.le_refl _) _, by simp⟩
    rw [row_cell _ _ _ _ _ _ (World.alloc_heap_new w _)]; rfl
  replace hstart := Lib.hid hstart
  rcases boolOf (treeOk es) with hok | hok
  · rw [treeDrop_bad hok.out]
    go_enter Tryd.func40, Tryd.ntmps40
    go_wp2_with fail
    obtain ⟨W1, hW1, hP1, hE1, hB1, hz1⟩ := hstart.out
    rw [hW1]
    clear hW1
    refine (TreeOk_any es g c _ hE1 hsh.out hcap).mono ?_
    rintro r w2 ⟨rfl, hB⟩
    rw [hok.out]
    have hB2 := hB1.trans (hB.mono (by omega))
    clear hP1 hE1
    go_wp2
    exact bodyPost_ret (v := .tuple #[.slice none 0 0, .bool false]) (by simp [results, Tryd.results40, go_sem]) rfl ⟨none, 0, rfl, .inl rfl, hB2⟩
  rcases boolOf (there es p) with hth | hth
  · rw [treeDrop_no hok.out hth.out]
    go_enter Tryd.func40, Tryd.ntmps40
    go_wp2_with fail
    obtain ⟨W1, hW1, hP1, hE1, hB1, hz1⟩ := hstart.out
    rw [hW1]
    clear hW1
    refine (TreeOk_any es g c _ hE1 hsh.out hcap).mono ?_
    rintro r w2 ⟨rfl, hB⟩
    rw [hok.out]
    have hB2 := hB1.trans (hB.mono (by omega))
    have hE2 := Lib.hid (hE1.below hB hE1.1)
    have hP2 := hP1.below hB hz1
    go_wp2_with fail
    refine (Clone_any es g c w2 hE2.out hlen).mono ?_
    rintro r w3 ⟨v, rfl, g3, c3, rfl, hg3, hc3, hR3, hB3⟩
    have hP3 := hP2.below hB3 hP2.1
    have hE3 := Lib.hid (hE2.out.below hB3 hE2.out.1)
    have hC3 := hB2.trans (hB3.mono hB2.size)
    have hpc := hP3.2
    have hgl := hR3.lt
    replace hR3 := Lib.hid hR3
    go_wp2_with fail
    refine (findEntry_any es p g c _ hE3.out (treeOk_is hok.out).sorted hlen).mono ?_
    rintro r w4 ⟨rfl, hB4⟩
    rw [hth.out]
    go_wp2
    exact bodyPost_ret (v := .tuple #[.slice (some ⟨g3, 0, none⟩) es.length c3, .bool false]) (by simp [results, Tryd.results40, go_sem]) rfl ⟨some ⟨g3, 0, none⟩, c3, rfl, .inr ⟨g3, c3, rfl, by have := hB2.size; omega, hc3, hR3.out.below hB4 hgl⟩, hC3.trans (hB4.mono hC3.size)⟩
  · rw [treeDrop_yes hok.out hth.out]
    have hkd := Lib.hid (keeps_drop hok.out hth.out)
    go_enter Tryd.func40, Tryd.ntmps40
    go_wp2_with fail
    obtain ⟨W1, hW1, hP1, hE1, hB1, hz1⟩ := hstart.out
    rw [hW1]
    clear hW1
    refine (TreeOk_any es g c _ hE1 hsh.out hcap).mono ?_
    rintro r w2 ⟨rfl, hB⟩
    rw [hok.out]
    have hB2 := hB1.trans (hB.mono (by omega))
    have hE2 := Lib.hid (hE1.below hB hE1.1)
    have hP2 := hP1.below hB hz1
    go_wp2_with fail
    refine (Clone_any es g c w2 hE2.out hlen).mono ?_
    rintro r w3 ⟨v, rfl, g3, c3, rfl, hg3, hc3, hR3, hB3⟩
    have hP3 := hP2.below hB3 hP2.1
    have hE3 := Lib.hid (hE2.out.below hB3 hE2.out.1)
    have hC3 := hB2.trans (hB3.mono hB2.size)
    have hpc := hP3.2
    have hgl := hR3.lt
    have hpg : w.heap.size ≠ g3 := by have := hP2.1; omega
    replace hR3 := Lib.hid hR3
    go_wp2_with fail
    refine (findEntry_any es p g c _ hE3.out (treeOk_is hok.out).sorted hlen).mono ?_
    rintro r w4 ⟨rfl, hB4⟩
    rw [hth.out]
    have hC4 := hC3.trans (hB4.mono hC3.size)
    have hR4 := Lib.hid (hR3.out.below hB4 hgl)
    have hP4 := Lib.hid (hP3.below hB4 hP3.1)
    clear hpc
    go_wp2_with fail
    refine (deleteFunc_any es p w.heap.size g3 c3 c3 _ hR4.out hc3 hc3 hsh.out hP4.out hpg hp).mono ?_
    rintro r w5 ⟨rfl, hR5, hgr⟩
    rw [hkd.out] at hR5 ⊢
    replace hR5 := Lib.hid hR5
    have hdl : (dropL es p).length ≤ c3 := Nat.le_trans (List.length_filter_le _ _) hc3
    go_wp2
    exact bodyPost_ret (v := .tuple #[.slice (some ⟨g3, 0, none⟩) (dropL es p).length c3, .bool true]) (by simp [results, Tryd.results40, go_sem]) rfl ⟨some ⟨g3, 0, none⟩, c3, rfl, .inr ⟨g3, c3, rfl, by have := hB2.size; omega, hdl, hR5.out⟩, hC4.grown hgr hC4.size (fun k e => by cases e; have := hB2.size; omega)⟩
end Go.Proofs.YtjihpbioofikcaaDoor

/-
  The walks of the reference's l2Drop and TreeDrop.
-/
namespace Go.Proofs.YtjihpbioofikcaaDoor
open Go.RowKit
set_option linter.unusedVariables false
set_option linter.unusedSimpArgs false
attribute [local go_sem] mkB_size mkB_extract mkB_get mkB_append mkB_append_raw raw_append_mkB mkB_toList

theorem cellsE_one (e : En) : ∀ u ∈ cellsE e, u.oneCell' = true := by
  intro u hu
  simp only [cellsE, List.mem_cons, List.not_mem_nil, or_false] at hu
  rcases hu with rfl | rfl | rfl | rfl <;> rfl
theorem flatE_snoc (es : List En) (e : En) : flatE (es ++ [e]) = flatE es ++ cellsE e := by rw [flatE_append]; simp [flatE]

set_option maxRecDepth 1000000 in
set_option maxHeartbeats 8000000 in
theorem l2Drop_any (es : List En) (p : List UInt8) (g c : Nat) (w : World) (hE : Ents w g es) (hsm : Small es) (hp : p.length ≤ 1048576) :
    Calls Tryd.prog 79 #[.slice (some ⟨g, 0, none⟩) es.length c, .string (mkB p)] w fun r w' => ∃ v, r = .returned v ∧ NewE (dropL es p) w v w' := by
  have hEh := Lib.hid hE
  have hsh := Lib.hid hsm
  have hg := hE.1
  have hlen := hsm.1
  clear hE hsm
  obtain ⟨i0, hi, hz0, hz1, hz2⟩ := info_parts infoE
  replace hi := Lib.hid hi
  replace hz0 := Lib.hid hz0
  replace hz1 := Lib.hid hz1
  replace hz2 := Lib.hid hz2
  have hown0 := Lib.hid (World.ownsRow_made (base := w.heap.size) (e := 31) (size := 4) w #[] 0 (Nat.le_refl _) (by simp [maxLen]) rfl)
  go_enter Tryd.func79, Tryd.ntmps79
  go_wp2
  go_loopw [5, 6] (fun out ii wr => ∃ (k g1 n1 c1 : Nat), k ≤ es.length ∧ ii = .int .i64 k ∧ out = .slice (some ⟨g1, 0, none⟩) n1 c1 ∧ Hid (n1 = ((es.take k).filter (stays p)).length) ∧ n1 ≤ k ∧ Hid (wr.ownsRow w.heap.size 31 4 (.slice (some ⟨g1, 0, none⟩) n1 c1) n1 (flatE ((es.take k).filter (stays p)))) ∧ Below w.heap.size w wr) (fun _ ii _ => es.length - (intOf ii).toNat)
  case atStart => exact ⟨0, w.heap.size, 0, 0, Nat.zero_le _, rfl, rfl, Lib.hid (by simp), Nat.le_refl _, Lib.hid (by simpa [flatE] using hown0.out), (Below.refl _ _).alloc (Nat.le_refl _) _⟩
  case round =>
    obtain ⟨k, g1, n1, c1, hk, rfl, rfl, hn1, hnk, hown, hB1⟩ := hrel
    by_cases hlt : k < es.length
    · obtain ⟨d0, d1, d2, d3⟩ := (hEh.out.below hB1 hg).2 k hlt
      have hkI : (k : Int) < (es.length : Int) := by omega
      have hpl := (hsh.out.2 k hlt).1
      rcases boolOf (below p es[k].path) with hb | hb
      · have hst : stays p es[k] = true := by unfold stays; rw [hb.out]; rfl
        have hnx : (es.take (k + 1)).filter (stays p) = (es.take k).filter (stays p) ++ [es[k]] := by rw [filter_take hlt, hst]; rfl
        replace hnx := Lib.hid hnx
        replace hst := Lib.hid hst
        have h63 : n1 + 1 ≤ maxLen := by simp only [maxLen]; omega
        have hby : (n1 + 1) * 48 ≤ 140737488355328 := by omega
        have hbs := hB1.size
        have hone := Lib.hid (cellsE_one es[k])
        go_wp2_with (first
          | (go_at_call 100; refine (l1Below_any p es[k].path (by omega) (by omega) _).mono ?_; rintro r w2 ⟨rfl, rfl⟩; rw [hb.out])
          | (at_builtin; go_loud (refine wpList_push rfl _ _ 27 rfl w.heap.size 31 i0 _ 4 48 Tryd.underlying27 hi.out hz0.out hz1.out hz2.out rfl (by decide) wr _ n1 (flatE ((es.take k).filter (stays p))) hown.out rfl (cellsE es[k]) rfl rfl hone.out h63 hby hbs ?_); intro g2 c2 w2 hown2 hgr2 hB2 _))
        have hown3 : w2.ownsRow w.heap.size 31 4 (.slice (some ⟨g2, 0, none⟩) (n1 + 1) c2) (n1 + 1) (flatE ((es.take (k + 1)).filter (stays p))) := by rw [hnx.out, flatE_snoc]; exact hown2
        replace hown3 := Lib.hid hown3
        clear hown2 hgr2
        go_wp2
        go_round
        case rel => exact ⟨k + 1, g2, n1 + 1, c2, by omega, by go_num, rfl, Lib.hid (by rw [hnx.out, List.length_append, ← hn1.out]; rfl), by omega, hown3, hB1.trans hB2⟩
        case measure => simp [intOf]; omega
      · have hst : stays p es[k] = false := by unfold stays; rw [hb.out]; rfl
        have hnx : (es.take (k + 1)).filter (stays p) = (es.take k).filter (stays p) := by rw [filter_take hlt, hst]; simp
        replace hnx := Lib.hid hnx
        replace hst := Lib.hid hst
        go_wp2_with (go_at_call 100; refine (l1Below_any p es[k].path (by omega) (by omega) _).mono ?_; rintro r w2 ⟨rfl, rfl⟩; rw [hb.out])
        go_round
        case rel => exact ⟨k + 1, g1, n1, c1, by omega, by go_num, rfl, Lib.hid (by rw [hnx.out]; exact hn1.out), by omega, Lib.hid (by rw [hnx.out]; exact hown.out), hB1⟩
        case measure => simp [intOf]; omega
    · obtain rfl : k = es.length := by omega
      have hfl : (es.take es.length).filter (stays p) = dropL es p := by rw [List.take_length]; rfl
      have hnl : n1 = (dropL es p).length := by rw [hn1.out, hfl]
      have hR := hown.out
      rw [hfl] at hR
      obtain ⟨gg, cc, hv, hgg, hnc, _⟩ := own_form hR (by intro e; cases e)
      cases hv
      have hRR := RowE.of_own hR
      subst hnl
      replace hR := Lib.hid hR
      replace hfl := Lib.hid hfl
      go_wp2
      go_ret
      exact ⟨_, rfl, g1, c1, rfl, hgg, hnc, hRR, hB1⟩
end Go.Proofs.YtjihpbioofikcaaDoor

