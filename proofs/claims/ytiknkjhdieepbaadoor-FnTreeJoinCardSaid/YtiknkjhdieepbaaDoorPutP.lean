/-
  Putting, joining and moving entries, plainly; rows written by copies of cells.
-/
import Derived.Test.YtiknkjhdieepbaaDoorGE
import Derived.Test.YtiknkjhdieepbaaDoorGF
namespace Go.Proofs.YtiknkjhdieepbaaDoor
open Go.RowKit
set_option linter.unusedVariables false
set_option linter.unusedSimpArgs false

/-! ### plainly -/
def insE (es : List En) (i : Nat) (e : En) : List En := es.take i ++ e :: es.drop i
theorem insE_length {es : List En} {i : Nat} (e : En) (h : i ≤ es.length) : (insE es i e).length = es.length + 1 := by
  simp [insE]; omega
def kindAt (es : List En) (k : Nat) : Int := match es[k]? with
  | some e => e.kind
  | none => 0
theorem kindAt_is {es : List En} {k : Nat} (h : k < es.length) : kindAt es k = es[k].kind := by unfold kindAt; rw [List.getElem?_eq_getElem h]
/-- an entry is put into a tree -/
def putL (es : List En) (e : En) : List En × Bool :=
  if entryOk e && placeOk es (upL e.path) then
    (if there es e.path then (if kindAt es (atGo es e.path) = e.kind then (es.set (atGo es e.path) e, true) else (es, false))
     else if 16 ≤ es.length then (es, false) else (insE es (atGo es e.path) e, true))
  else (es, false)
theorem putL_bad {es : List En} {e : En} (h : entryOk e = false) : putL es e = (es, false) := by unfold putL; rw [h]; rfl
theorem putL_place {es : List En} {e : En} (h : placeOk es (upL e.path) = false) : putL es e = (es, false) := by unfold putL; rw [h]; simp
theorem putL_kind {es : List En} {e : En} {k : Nat} (ht : there es e.path = true) (ha : atGo es e.path = k) (hk : k < es.length) (hn : ¬ es[k].kind = e.kind) : putL es e = (es, false) := by
  subst ha
  unfold putL
  rw [ht, kindAt_is hk, if_neg hn]
  simp
theorem putL_set {es : List En} {e : En} {k : Nat} (h1 : entryOk e = true) (h2 : placeOk es (upL e.path) = true) (ht : there es e.path = true) (ha : atGo es e.path = k) (hk : k < es.length) (hn : es[k].kind = e.kind) : putL es e = (es.set k e, true) := by
  subst ha
  unfold putL
  rw [h1, h2, ht, kindAt_is hk, if_pos hn]
  rfl
theorem putL_full {es : List En} {e : En} (ht : there es e.path = false) (hl : 16 ≤ es.length) : putL es e = (es, false) := by
  unfold putL
  rw [ht, if_pos hl]
  simp
theorem putL_ins {es : List En} {e : En} {k : Nat} (h1 : entryOk e = true) (h2 : placeOk es (upL e.path) = true) (ht : there es e.path = false) (ha : atGo es e.path = k) (hl : ¬ 16 ≤ es.length) : putL es e = (insE es k e, true) := by
  subst ha
  unfold putL
  rw [h1, h2, ht, if_neg hl]
  rfl
noncomputable def treePut (es : List En) (e : En) : List En × Bool := if treeOk es = true then putL es e else ([], false)
theorem treePut_bad {es : List En} {e : En} (h : treeOk es = false) : treePut es e = ([], false) := by unfold treePut; rw [h]; rfl
theorem treePut_ok {es : List En} {e : En} (h : treeOk es = true) : treePut es e = putL es e := by unfold treePut; rw [if_pos h]
theorem putL_len (es : List En) (e : En) : (putL es e).1.length ≤ es.length + 1 := by
  have hk := atGo_le es e.path
  unfold putL
  split
  · split
    · split
      · simp
      · simp
    · split
      · simp
      · show (insE es (atGo es e.path) e).length ≤ _
        rw [insE_length e hk]; omega
  · simp
theorem treePut_len (es : List En) (e : En) : (treePut es e).1.length ≤ es.length + 1 := by
  unfold treePut
  split
  · exact putL_len es e
  · simp
theorem flatE_take (es : List En) (i : Nat) : (flatE es).take (i * 4) = flatE (es.take i) := by
  induction i generalizing es with
  | zero => simp [flatE]
  | succ i ih =>
    cases es with
    | nil => simp [flatE]
    | cons e r => rw [flatE_cons, List.take_succ_cons, flatE_cons, show (i + 1) * 4 = i * 4 + 1 + 1 + 1 + 1 by omega]; simp only [List.take_succ_cons]; rw [ih]
theorem flatE_drop (es : List En) (i : Nat) : (flatE es).drop (i * 4) = flatE (es.drop i) := by
  induction i generalizing es with
  | zero => simp
  | succ i ih =>
    cases es with
    | nil => simp [flatE]
    | cons e r => rw [flatE_cons, List.drop_succ_cons, show (i + 1) * 4 = i * 4 + 1 + 1 + 1 + 1 by omega]; simp only [List.drop_succ_cons]; rw [ih]
theorem flatE_ins (es : List En) (i : Nat) (e : En) : flatE (insE es i e) = flatE (es.take i) ++ (cellsE e ++ flatE (es.drop i)) := by
  unfold insE
  rw [flatE_append]
  rfl

/-! ### rows -/
/-- a row of room for m entries -/
def RoomE (w : World) (g m : Nat) : Prop := ∃ cur : Array Value, w.heap[g]? = some (.cells cur 30 (0, 0)) ∧ cur.size = m * 4
theorem RowE.rooms {w : World} {g m k : Nat} {es : List En} (h : RowE w g m k es) : RoomE w g m := by
  obtain ⟨cur, hh, hs, _⟩ := h
  exact ⟨cur, hh, hs⟩
theorem RoomE.is {w : World} {g m j : Nat} (h : RoomE w g m) (hj : j < m * 4) : (w.cell? ⟨g, j, none⟩).isSome = true := by
  obtain ⟨cur, hh, hs⟩ := h
  rw [row_cell _ _ _ _ _ _ hh, Array.getElem?_eq_getElem (by omega)]
  rfl
theorem RoomE.frozen {w : World} {g m : Nat} (h : RoomE w g m) (j : Nat) : w.frozen? ⟨g, j, none⟩ = false := by
  obtain ⟨cur, hh, hs⟩ := h
  simp [World.frozen?, hh]
theorem RoomE.shape {w : World} {g m : Nat} (h : RoomE w g m) : w.shape? g = some (30, m * 4) := by
  obtain ⟨cur, hh, hs⟩ := h
  simp [World.shape?, hh, hs]
theorem RoomE.setCells {g m : Nat} : ∀ (vs : List Value) (o : Nat) {w : World}, RoomE w g m → RoomE (w.setCells g o vs) g m
  | [], _, _, h => h
  | v :: r, o, w, h => by
    refine RoomE.setCells r (o + 1) (w := w.setCell ⟨g, o, none⟩ v) ?_
    obtain ⟨cur, hh, hs⟩ := h
    exact ⟨_, heap_set hh, by simp [hs]⟩
theorem RoomE.row {w : World} {g m n : Nat} {es : List En} (h : RoomE w g m) (hn : n = es.length) (hc : ∀ j u, (flatE es)[j]? = some u → w.cell? ⟨g, j, none⟩ = some u) : RowE w g m n es := by
  obtain ⟨cur, hh, hs⟩ := h
  refine ⟨cur, hh, hs, fun i hi _ => ?_⟩
  obtain ⟨d0, d1, d2, d3⟩ := flatE_get es i hi
  refine ⟨?_, ?_, ?_, ?_⟩
  · have := hc _ _ d0; rwa [row_cell _ _ _ _ _ _ hh] at this
  · have := hc _ _ d1; rwa [row_cell _ _ _ _ _ _ hh] at this
  · have := hc _ _ d2; rwa [row_cell _ _ _ _ _ _ hh] at this
  · have := hc _ _ d3; rwa [row_cell _ _ _ _ _ _ hh] at this
theorem cellsE_one' (e : En) : ∀ u ∈ cellsE e, u.oneCell' = true := by
  intro u hu
  simp only [cellsE, List.mem_cons, List.not_mem_nil, or_false] at hu
  rcases hu with rfl | rfl | rfl | rfl <;> rfl
theorem flatE_set (es : List En) (i : Nat) (e : En) (h : i < es.length) : flatE (es.set i e) = flatE (es.take i) ++ (cellsE e ++ flatE (es.drop (i + 1))) := by
  rw [List.set_eq_take_append_cons_drop, if_pos h, flatE_append]
  rfl
end Go.Proofs.YtiknkjhdieepbaaDoor
