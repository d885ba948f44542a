/-
  The walk of slices.SortFunc at entries: the shelf's contract at this dump.
-/
import Derived.Test.YtjihpbioofikcaaDoorMoveP
import Derived.Test.YtjihpbioofikcaaDoorLaySo
import Derived.Sort.OwnSorted
namespace Go.Proofs.YtjihpbioofikcaaDoor
open Go.RowKit
set_option linter.unusedVariables false
set_option linter.unusedSimpArgs false

instance : Inhabited En := ⟨e0⟩
def cmpE (a b : En) : Int := cmpT a.path b.path
theorem ltOf_cmpE (a b : En) : ltOf cmpE a b = Op.bytesLess a.path b.path := by
  unfold ltOf cmpE
  rcases lt_tri a.path b.path with h | h | h
  · rw [cmpT_lt h, h]; rfl
  · rw [h, cmpT_eq, lt_irrefl]; rfl
  · rw [cmpT_gt h, lt_asymm h]; rfl
theorem swoE : Go.Sort.SWO (ltOf cmpE) where
  irrefl x := by rw [ltOf_cmpE]; exact lt_irrefl _
  trans x y z h1 h2 := by rw [ltOf_cmpE] at *; exact lt_trans h1 h2
  ntrans x y z h1 h2 := by
    rw [ltOf_cmpE] at *
    cases h : Op.bytesLess x.path z.path with
    | false => rfl
    | true =>
      rcases lt_tri x.path y.path with k | k | k
      · rw [k] at h1; cases h1
      · rw [k] at h; rw [h] at h2; cases h2
      · rw [lt_trans k h] at h2; cases h2

set_option maxHeartbeats 1000000 in
theorem byPath_grow (a b : En) (W : World) : Calls Tryd.prog 64 #[.agg (cellsE a).toArray, .agg (cellsE b).toArray] W
    fun e w' => e = .returned (.int .i64 (cmpE a b)) ∧ ∃ q os', w' = Go.Sort.grow (W.drewN q) os' := by
  unfold cmpE cellsE
  have hcon := fun W' => Compare_any a.path b.path W'
  generalize cmpT a.path b.path = r at hcon ⊢
  go_enter Tryd.func64, Tryd.ntmps64
  go_wp2_with (go_at_call 105; refine (hcon _).mono ?_; rintro e w' ⟨rfl, rfl⟩)
  go_ret
  exact ⟨rfl, 0, _, by rw [Go.Sort.alloc_eq_grow, Go.Sort.alloc_eq_grow, Go.Sort.grow_grow]; rfl⟩

theorem flatK_E (es : List En) : Go.Sort.flatK cellsE 4 es.toArray = (flatE es).toArray := by
  refine Go.Sort.ext_get! (by simp [flatE_length]) fun t ht => ?_
  simp only [Go.Sort.size_flatK, List.size_toArray] at ht
  rw [Go.Sort.get_flatK _ _ _ _ (by simpa using ht)]
  have hi : t / 4 < es.length := by omega
  obtain ⟨d0, d1, d2, d3⟩ := flatE_get es (t / 4) hi
  have hg : (es.toArray)[t / 4]! = es[t / 4] := by rw [getElem!_pos es.toArray (t / 4) (by simpa using hi)]; simp
  rw [hg]
  have hx : ∀ v, (flatE es)[t]? = some v → ((flatE es).toArray)[t]! = v := fun v hv => by
    have := (List.getElem?_eq_some_iff.1 hv)
    obtain ⟨h1, h2⟩ := this
    rw [getElem!_pos (flatE es).toArray t (by simpa using h1)]
    simpa using h2
  have hr : t % 4 = 0 ∨ t % 4 = 1 ∨ t % 4 = 2 ∨ t % 4 = 3 := by omega
  rcases hr with hr | hr | hr | hr
  · rw [hr, hx _ (by rw [show t = t / 4 * 4 by omega]; exact d0)]; rfl
  · rw [hr, hx _ (by rw [show t = t / 4 * 4 + 1 by omega]; exact d1)]; rfl
  · rw [hr, hx _ (by rw [show t = t / 4 * 4 + 2 by omega]; exact d2)]; rfl
  · rw [hr, hx _ (by rw [show t = t / 4 * 4 + 3 by omega]; exact d3)]; rfl
theorem holdsE {w : World} {g m : Nat} {es : List En} (hR : RowE w g m es.length es) : Go.Sort.HoldsK cellsE 4 w g 0 es.toArray := by
  unfold Go.Sort.HoldsK
  rw [flatK_E]
  intro j hj
  have hj' : j < (flatE es).length := by simpa using hj
  refine ⟨?_, ?_⟩
  · have h := hR.ents.flat j _ (List.getElem?_eq_getElem hj')
    rw [add_of_head] at h
    rw [Nat.zero_add, h, getElem!_pos (flatE es).toArray j hj]
    simp
  · rw [Nat.zero_add]; exact hR.frozen j
theorem heap_sortedK {w : World} {g n : Nat} {os : Array Obj} {cur : Array Value} {e : TypeId} {fr : Nat × Nat} (d : Array Value) (hb : w.heap[g]? = some (.cells cur e fr)) :
    (Go.Sort.grow (Go.Sort.putRow id (Go.Sort.ahead w n) g 0 d) os).heap[g]? = some (.cells (Go.Sort.putCells id 0 d cur) e fr) := by
  have hg : g < w.heap.size := (Array.getElem?_eq_some_iff.1 hb).1
  rw [Go.Sort.heap_grow_old _ _ (by simpa using hg)]
  simp [Go.Sort.putRow, Go.Sort.mapBlock, Go.Sort.ahead, Array.getElem?_modify, hb, Go.Sort.onCells]
theorem grownBy_sortedK {w : World} {g n : Nat} {os : Array Obj} (d : Array Value) : w.grownBy (Go.Sort.grow (Go.Sort.putRow id (Go.Sort.ahead w n) g 0 d) os) (some g) := by
  refine ⟨rfl, rfl, rfl, by simp, fun k hk hne => ?_⟩
  rw [Go.Sort.heap_grow_old _ _ (by simpa using hk)]
  have : g ≠ k := fun e => hne (by rw [e])
  simp [Go.Sort.putRow, Go.Sort.mapBlock, Go.Sort.ahead, Array.getElem?_modify, this]
theorem row_sorted {w : World} {g n m : Nat} {os : Array Obj} {es fs : List En} (hR : RowE w g m es.length es) (hm : es.length ≤ m) (hl : fs.length = es.length) :
    RowE (Go.Sort.grow (Go.Sort.putRow id (Go.Sort.ahead w n) g 0 (flatE fs).toArray) os) g m fs.length fs := by
  obtain ⟨cur, hh, hs, _⟩ := hR
  refine ⟨_, heap_sortedK _ hh, by simp [Go.Sort.putCells, hs], fun i hi _ => ?_⟩
  have hget : ∀ j v, (flatE fs)[j]? = some v → (Go.Sort.putCells id 0 (flatE fs).toArray cur)[j]? = some v := fun j v hv => by
    obtain ⟨h1, h2⟩ := List.getElem?_eq_some_iff.1 hv
    have hfl := flatE_length fs
    have hcj : cur[j]? = some (cur[j]'(by omega)) := Array.getElem?_eq_getElem (by omega)
    unfold Go.Sort.putCells
    rw [Array.getElem?_mapIdx, hcj]
    simp only [Option.map_some, Nat.zero_le, true_and, Nat.zero_add, Nat.sub_zero, List.size_toArray, h1, if_true, id]
    rw [getElem!_pos (flatE fs).toArray j (by simpa using h1)]
    simpa using h2
  obtain ⟨d0, d1, d2, d3⟩ := flatE_get fs i hi
  exact ⟨hget _ _ d0, hget _ _ d1, hget _ _ d2, hget _ _ d3⟩

/-- what the sort leaves -/
def SortPost (es : List En) (g m : Nat) (w : World) (e : Ending) (w' : World) : Prop :=
  e = .returned (.tuple #[]) ∧ ∃ fs : List En, fs.Perm es ∧ (∀ i j (hi : i < fs.length) (hj : j < fs.length), i < j → Op.bytesLess fs[j].path fs[i].path = false) ∧ RowE w' g m fs.length fs ∧ w.grownBy w' (some g)
theorem SortFunc_any (es : List En) (g m c : Nat) (w : World) (hR : RowE w g m es.length es) (hm : es.length ≤ m) (hlen : es.length ≤ 1048576) :
    Calls Tryd.prog 63 #[.slice (some ⟨g, 0, none⟩) es.length c, .func (.func 64) #[] #[]] w (SortPost es g m w) := by
  have eg : ∀ args w, (callFunc 64 args).run Tryd.prog w = .ok (.enter 64 args) w := enters_of Tryd.func64 (by kernel_rfl) rfl
  have hcmp : CmpLays Tryd.prog 64 #[] cellsE 4 cmpE g 0 es.toArray.size w := fun _ _ _ _ x y => byPath_grow x y _
  have hcon := AnyQ.slices_SortFunc Tryd.laysSo 4 Tryd.isAgg31 Tryd.sizeOf31 cellsE (fun _ => rfl) cellsE_one' cmpE swoE 64 #[] g 0 c es.toArray w eg hcmp (holdsE hR) hR.lt (by simp; omega)
  change Calls Tryd.prog 63 _ _ _ at hcon
  rw [List.size_toArray] at hcon
  refine hcon.mono ?_
  rintro e w' ⟨rfl, d', n, os, ⟨hsz, _, hperm⟩, hsort, rfl⟩
  rw [List.size_toArray] at hsz
  have hd : (d'.extract 0 es.length).toList = d'.toList := by
    simp
    exact List.take_of_length_le (by simp at hsz ⊢; omega)
  have hp : d'.toList.Perm es := by
    rw [hd] at hperm
    simpa using hperm
  have hl : d'.toList.length = es.length := by simp [hsz]
  refine ⟨rfl, d'.toList, hp, fun i j hi hj hij => ?_, ?_, ?_⟩
  · have h := hsort i j (Nat.zero_le _) hij (by omega)
    rw [ltOf_cmpE] at h
    have hi' : i < d'.size := by simpa using hi
    have hj' : j < d'.size := by simpa using hj
    rw [getElem!_pos d' i hi', getElem!_pos d' j hj'] at h
    simpa using h
  · unfold sortWorldK Go.Sort.putRowK
    have hf := flatK_E d'.toList
    rw [Array.toArray_toList] at hf
    rw [hf]
    exact row_sorted hR hm hl
  · unfold sortWorldK Go.Sort.putRowK
    exact grownBy_sortedK _
end Go.Proofs.YtjihpbioofikcaaDoor
