/-
  GlobC, GlobD, GlobE, GlobF: merged.
-/
import Derived.Test.YtiknkjhdieepbaaDoorGJ
import Derived.Test.YtiknkjhdieepbaaDoorGA
import Derived.Laws.EntriesVeiled
import Derived.Test.YtiknkjhdieepbaaDoorGC
import Derived.Deep.Cut
import Derived.OrdersHeld
import Derived.Deep.RegionHeld3
/-
  The walks of the program's globClass, and of the closures that take one byte.
-/
namespace Go.Proofs.YtiknkjhdieepbaaDoor
open Go.RowKit
set_option linter.unusedVariables false
set_option linter.unusedSimpArgs false
attribute [local go_sem] mkB_size mkB_extract mkB_get mkB_toList

/-! ### what takes a byte, in memory -/
/-- a box of two cells -/
def Box2 (W : World) (B : Nat) (t : TypeId) (a b : Value) : Prop := W.heap[B]? = some (.cells #[a, b] t (0, 0))
section
variable {W W' : World} {B : Nat} {t : TypeId} {a b : Value}
theorem Box2.new (w : World) (t : TypeId) (a b : Value) : Box2 (w.alloc (.cells #[a, b] t)) w.heap.size t a b := World.alloc_heap_new w _
theorem Box2.cell0 (h : Box2 W B t a b) : W.cell? ⟨B, 0, none⟩ = some a := by rw [cell_of_row _ _ _ _ _ _ h]; rfl
theorem Box2.cell1 (h : Box2 W B t a b) : W.cell? ⟨B, 1, none⟩ = some b := by rw [cell_of_row _ _ _ _ _ _ h]; rfl
theorem Box2.frozen (h : Box2 W B t a b) (j : Nat) : W.frozen? ⟨B, j, none⟩ = false := by
  unfold Box2 at h
  simp [World.frozen?, h]
theorem Box2.lt (h : Box2 W B t a b) : B < W.heap.size := (Array.getElem?_eq_some_iff.1 h).1
theorem Box2.kept {row : Option Nat} (h : Box2 W B t a b) (hg : W.grownBy W' row) (hne : some B ≠ row) : Box2 W' B t a b := (hg.block B h.lt hne).trans h
theorem Box2.alloc (h : Box2 W B t a b) (o : Obj) : Box2 (W.alloc o) B t a b := h.kept (World.grownBy_alloc W o none) (by simp)
theorem Box2.below {n : Nat} (h : Box2 W B t a b) (hB : Below n W W') (hlt : B < n) : Box2 W' B t a b := (hB.block B hlt).trans h
theorem Box2.set0 (h : Box2 W B t a b) (v : Value) : Box2 (W.setCell ⟨B, 0, none⟩ v) B t v b := by
  unfold Box2 at h ⊢
  simp [World.setCell, Array.getElem?_modify, h]
theorem Box2.set1 (h : Box2 W B t a b) (v : Value) : Box2 (W.setCell ⟨B, 1, none⟩ v) B t a v := by
  unfold Box2 at h ⊢
  simp [World.setCell, Array.getElem?_modify, h]
end

/-! ### small library functions -/
/-! ### the closures -/
theorem indexByte_mem (l : List UInt8) (c : UInt8) : decide (0 ≤ Lib.indexByte l c) = l.contains c := by
  rcases split_first c l with h | ⟨f, r, hf, rfl⟩
  · rw [indexByte_of_none h]
    symm
    simpa using h
  · rw [indexByte_at hf]
    simp
theorem Boxed.drewN {W : World} {B : Nat} {t : TypeId} {v : Value} (h : Boxed W B t v) (n : Nat) : Boxed (W.drewN n) B t v := h

/-! ### globClass -/
end Go.Proofs.YtiknkjhdieepbaaDoor

/-
  The walk of the program's globParts.
-/
namespace Go.Proofs.YtiknkjhdieepbaaDoor
open Go.RowKit
set_option linter.unusedVariables false
set_option linter.unusedSimpArgs false
attribute [local go_sem] mkB_size mkB_extract mkB_get mkB_toList

/-- elements as cells: a star's mark, and what takes a byte -/
def cellsP (xs : List (Pt × Value)) : List Value := xs.flatMap fun x => [.bool x.1.isStar, x.2]
theorem cellsP_snoc (xs : List (Pt × Value)) (p : Pt) (f : Value) : cellsP (xs ++ [(p, f)]) = cellsP xs ++ [.bool p.isStar, f] := by simp [cellsP]
theorem cellsP_length (xs : List (Pt × Value)) : (cellsP xs).length = xs.length * 2 := by
  induction xs with
  | nil => rfl
  | cons x xs ih =>
    unfold cellsP at ih ⊢
    rw [List.flatMap_cons, List.length_append, ih]
    simp; omega
def onP (xs : List (Pt × Value)) (o : Option (List Pt)) : Option (List Pt) := o.map (xs.map Prod.fst ++ ·)
theorem onP_next {xs : List (Pt × Value)} {l r : List UInt8} {p : Pt} (h : head1 l = some (p, r)) (f : Value) : onP xs (parts l) = onP (xs ++ [(p, f)]) (parts r) := by
  rw [parts_step h]
  unfold onP
  cases parts r <;> simp
theorem onP_bad {xs : List (Pt × Value)} {l : List UInt8} (h : head1 l = none) (hn : l ≠ []) : onP xs (parts l) = none := by
  rw [parts_bad h hn]; rfl
def szOf (v : Value) : Nat := match v with
  | .string s => s.size
  | _ => 0
theorem szOf_str (l : List UInt8) : szOf (.string (mkB l)) = l.length := mkB_size l
theorem name_bad {l : List UInt8} (h : parts l = none) : nameParts l = none := by
  unfold nameParts
  split
  · rfl
  · exact h
theorem own_below {W W' : World} {base : Nat} {e : TypeId} {k m : Nat} {v : Value} {xs : List Value} (h : W.ownsRow base e k v m xs) (hB : Below W.heap.size W W') : W'.ownsRow base e k v m xs := by
  have hg : W.grownBy W' none := ⟨hB.os, hB.tape, hB.output, hB.size, fun k hk _ => hB.block k hk⟩
  refine h.kept hg ?_
  rcases h.2 with ⟨rfl, _⟩ | ⟨g, cap, cur, rfl, _⟩
  · exact .inl rfl
  · exact .inr (by simp [Value.ownBlock])
end Go.Proofs.YtiknkjhdieepbaaDoor

/-
  Rows of bools; elements in memory; what is reached of a name, row by row.
-/
namespace Go.Proofs.YtiknkjhdieepbaaDoor
open Go.RowKit
set_option linter.unusedVariables false
set_option linter.unusedSimpArgs false

/-! ### rows of bools, known whole -/
def BRow (W : World) (g N : Nat) (f : Nat → Bool) : Prop := ∃ cur : Array Value, W.heap[g]? = some (.cells cur 4 (0, 0)) ∧ cur.size = N ∧ ∀ j, j < N → cur[j]? = some (.bool (f j))
section
variable {W W' : World} {g N : Nat} {f : Nat → Bool}
theorem BRow.cell (h : BRow W g N f) {j : Nat} (hj : j < N) : W.cell? ⟨g, j, none⟩ = some (.bool (f j)) := by
  obtain ⟨cur, hh, hs, hc⟩ := h
  rw [cell_of_row _ _ _ _ _ _ hh]
  exact hc j hj
theorem BRow.frozen (h : BRow W g N f) (j : Nat) : W.frozen? ⟨g, j, none⟩ = false := by
  obtain ⟨cur, hh, hs, hc⟩ := h
  simp [World.frozen?, hh]
theorem BRow.lt (h : BRow W g N f) : g < W.heap.size := by
  obtain ⟨cur, hh, hs, hc⟩ := h
  exact (Array.getElem?_eq_some_iff.1 hh).1
theorem BRow.same (h : BRow W g N f) (he : W'.heap[g]? = W.heap[g]?) : BRow W' g N f := by
  obtain ⟨cur, hh, hs, hc⟩ := h
  exact ⟨cur, he.trans hh, hs, hc⟩
theorem BRow.below {n : Nat} (h : BRow W g N f) (hB : Below n W W') (hg : g < n) : BRow W' g N f := h.same (hB.block g hg)
theorem BRow.drewN (h : BRow W g N f) (n : Nat) : BRow (W.drewN n) g N f := h
theorem BRow.drew (h : BRow W g N f) : BRow W.drew g N f := h
theorem BRow.other (h : BRow W g N f) {B j : Nat} (hne : g ≠ B) (v : Value) : BRow (W.setCell ⟨B, j, none⟩ v) g N f := h.same (Below.heap_setCell _ _ _ g hne)
theorem BRow.alloc (h : BRow W g N f) (o : Obj) : BRow (W.alloc o) g N f := h.same (Below.heap_alloc W o g h.lt)
theorem BRow.congr (h : BRow W g N f) {f' : Nat → Bool} (he : ∀ j, j < N → f j = f' j) : BRow W g N f' := by
  obtain ⟨cur, hh, hs, hc⟩ := h
  exact ⟨cur, hh, hs, fun j hj => by rw [← he j hj]; exact hc j hj⟩
theorem BRow.set (h : BRow W g N f) {i : Nat} (hi : i < N) (b : Bool) : BRow (W.setCell ⟨g, i, none⟩ (.bool b)) g N (fun j => if j = i then b else f j) := by
  obtain ⟨cur, hh, hs, hc⟩ := h
  refine ⟨cur.setIfInBounds i (.bool b), ?_, by simp [hs], fun j hj => ?_⟩
  · simp [World.setCell, Array.getElem?_modify, hh, Array.setIfInBounds]
  · rw [Array.getElem?_setIfInBounds]
    by_cases e : i = j
    · subst e; simp [hs, hi]
    · rw [if_neg e]
      show _ = some (Value.bool (if j = i then b else f j))
      rw [if_neg (fun h' : j = i => e h'.symm)]; exact hc j hj
end
theorem BRow.made {W : World} {lo g N : Nat} (h : W.ownsRow lo 4 1 (.slice (some ⟨g, 0, none⟩) N N) N (madeCells (Value.bool false).cells (N * 1)).toList) : BRow W g N (fun _ => false) ∧ lo ≤ g := by
  obtain ⟨_, h | ⟨g', cap, cur, hv, hb, hh, hn, hm, hs, ht⟩⟩ := h
  · cases h.1
  · cases hv
    rw [Nat.mul_one] at hs ht
    have hcl : cur.toList = (madeCells (Value.bool false).cells N).toList := by
      rw [← ht, List.take_of_length_le (by rw [Array.length_toList]; omega)]
    refine ⟨⟨cur, hh, hs, fun j hj => ?_⟩, hb⟩
    rw [← Array.getElem?_toList, hcl, Array.getElem?_toList]
    simp [madeCells, hj, Value.cells]
    rw [Nat.mod_one]; rfl
/-! ### elements in memory, as they are read -/
/-- a function that takes a byte: whatever lies in memory behind it -/
def TakeFn (W : World) (f : Value) (p : Pt) : Prop := ∃ (gf : Nat) (bs : Array Value), f = .func (.func gf) #[] bs ∧ (∀ args w, (callFunc gf args).run Tryd.prog w = .ok (.enter gf args) w) ∧
  ∀ (c : UInt8) (W' : World), Below W.heap.size W W' → Calls Tryd.prog gf (#[.int .u8 (c.toNat : Int)] ++ bs) W' (Quiet (p.has c) W')
theorem cellsP_at : ∀ (xs : List (Pt × Value)) (i : Nat) (h : i < xs.length), (cellsP xs)[i * 2]? = some (.bool xs[i].1.isStar) ∧ (cellsP xs)[i * 2 + 1]? = some xs[i].2
  | x :: xs, 0, _ => by simp [cellsP]
  | x :: xs, i + 1, h => by
    have ih := cellsP_at xs i (by simpa using h)
    have e : cellsP (x :: xs) = .bool x.1.isStar :: x.2 :: cellsP xs := by simp [cellsP]
    rw [e, show (i + 1) * 2 = i * 2 + 1 + 1 by omega, show i * 2 + 1 + 1 + 1 = (i * 2 + 1) + 1 + 1 by omega]
    simpa using ih
/-! ### what is reached -/
def reach (ps : List Pt) (s : List UInt8) (i : Nat) : Bool := fits ps (s.take i)
theorem reach_nil (s : List UInt8) (i : Nat) (hi : i ≤ s.length) : reach [] s i = (i == 0) := by
  unfold reach
  rw [fits_nil]
  cases i with
  | zero => rfl
  | succ i => cases s with
    | nil => simp at hi
    | cons => rfl
theorem reach_star0 (ps : List Pt) (s : List UInt8) : reach (ps ++ [.star]) s 0 = reach ps s 0 := by unfold reach; exact fits_snoc_star_nil ps
theorem reach_star (ps : List Pt) {s : List UInt8} {i : Nat} (hi : i < s.length) : reach (ps ++ [.star]) s (i + 1) = (reach ps s (i + 1) || reach (ps ++ [.star]) s i) := by
  unfold reach
  rw [List.take_succ_eq_append_getElem hi, fits_snoc_star]
theorem reach_one0 (ps : List Pt) {p : Pt} (h : p.isStar = false) (s : List UInt8) : reach (ps ++ [p]) s 0 = false := by unfold reach; exact fits_snoc_one_nil ps h
theorem reach_one (ps : List Pt) {p : Pt} (h : p.isStar = false) {s : List UInt8} {i : Nat} (hi : i < s.length) : reach (ps ++ [p]) s (i + 1) = (reach ps s i && p.has s[i]) := by
  unfold reach
  rw [List.take_succ_eq_append_getElem hi, fits_snoc_one ps h]
theorem reach_all (ps : List Pt) (s : List UInt8) : reach ps s s.length = fits ps s := by unfold reach; rw [List.take_length]
/-- a row that is filled up to i -/
def upTo (f : Nat → Bool) (i j : Nat) : Bool := decide (j < i) && f j
theorem upTo_next (f : Nat → Bool) (i : Nat) {b : Bool} (hb : b = f i) (j : Nat) : (if j = i then b else upTo f i j) = upTo f (i + 1) j := by
  unfold upTo
  by_cases h : j = i
  · subst h; simp [hb]
  · rw [if_neg h]
    have : decide (j < i) = decide (j < i + 1) := by rw [decide_eq_decide]; omega
    rw [this]
theorem upTo_lt (f : Nat → Bool) {i j : Nat} (h : j < i) : upTo f i j = f j := by unfold upTo; simp [h]
end Go.Proofs.YtiknkjhdieepbaaDoor

/-
  The walk of the program's partsHave.
-/
namespace Go.Proofs.YtiknkjhdieepbaaDoor
open Go.RowKit
set_option linter.unusedVariables false
set_option linter.unusedSimpArgs false
attribute [local go_sem] mkB_size mkB_extract mkB_get mkB_toList

theorem info_bool : (Tryd.prog.info? 4).map (fun i => (i.zero, i.size, i.bytes)) = some (some (.bool false), 1, 1) := by kernel_rfl
def stars (xs : List (Pt × Value)) : List Pt := xs.map Prod.fst
theorem stars_take {xs : List (Pt × Value)} {k : Nat} (h : k < xs.length) : stars (xs.take (k + 1)) = stars (xs.take k) ++ [xs[k].1] := by
  unfold stars
  rw [List.take_succ_eq_append_getElem h, List.map_append]; rfl
end Go.Proofs.YtiknkjhdieepbaaDoor

