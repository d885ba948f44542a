/-
  Rows of bools; elements in memory; what is reached of a name, row by row.
-/
import Derived.Test.YtiibodelcfmnpaaDoorGlobD
namespace Go.Proofs.YtiibodelcfmnpaaDoor
open Go.RowKit
set_option linter.unusedVariables false
set_option linter.unusedSimpArgs false

/-! ### rows of bools, known whole -/
def BRow (W : World) (g N : Nat) (f : Nat → Bool) : Prop := ∃ cur : Array Value, W.heap[g]? = some (.cells cur 4 (0, 0)) ∧ cur.size = N ∧ ∀ j, j < N → cur[j]? = some (.bool (f j))
section
variable {W W' : World} {g N : Nat} {f : Nat → Bool}
theorem BRow.cell (h : BRow W g N f) {j : Nat} (hj : j < N) : W.cell? ⟨g, j, none⟩ = some (.bool (f j)) := by
  obtain ⟨cur, hh, hs, hc⟩ := h
  rw [cell_of_row _ _ _ _ _ _ hh]
  exact hc j hj
theorem BRow.frozen (h : BRow W g N f) (j : Nat) : W.frozen? ⟨g, j, none⟩ = false := by
  obtain ⟨cur, hh, hs, hc⟩ := h
  simp [World.frozen?, hh]
theorem BRow.lt (h : BRow W g N f) : g < W.heap.size := by
  obtain ⟨cur, hh, hs, hc⟩ := h
  exact (Array.getElem?_eq_some_iff.1 hh).1
theorem BRow.same (h : BRow W g N f) (he : W'.heap[g]? = W.heap[g]?) : BRow W' g N f := by
  obtain ⟨cur, hh, hs, hc⟩ := h
  exact ⟨cur, he.trans hh, hs, hc⟩
theorem BRow.below {n : Nat} (h : BRow W g N f) (hB : Below n W W') (hg : g < n) : BRow W' g N f := h.same (hB.block g hg)
theorem BRow.drewN (h : BRow W g N f) (n : Nat) : BRow (W.drewN n) g N f := h
theorem BRow.drew (h : BRow W g N f) : BRow W.drew g N f := h
theorem BRow.other (h : BRow W g N f) {B j : Nat} (hne : g ≠ B) (v : Value) : BRow (W.setCell ⟨B, j, none⟩ v) g N f := h.same (Below.heap_setCell _ _ _ g hne)
theorem BRow.alloc (h : BRow W g N f) (o : Obj) : BRow (W.alloc o) g N f := h.same (Below.heap_alloc W o g h.lt)
theorem BRow.congr (h : BRow W g N f) {f' : Nat → Bool} (he : ∀ j, j < N → f j = f' j) : BRow W g N f' := by
  obtain ⟨cur, hh, hs, hc⟩ := h
  exact ⟨cur, hh, hs, fun j hj => by rw [← he j hj]; exact hc j hj⟩
theorem BRow.set (h : BRow W g N f) {i : Nat} (hi : i < N) (b : Bool) : BRow (W.setCell ⟨g, i, none⟩ (.bool b)) g N (fun j => if j = i then b else f j) := by
  obtain ⟨cur, hh, hs, hc⟩ := h
  refine ⟨cur.setIfInBounds i (.bool b), ?_, by simp [hs], fun j hj => ?_⟩
  · simp [World.setCell, Array.getElem?_modify, hh, Array.setIfInBounds]
  · rw [Array.getElem?_setIfInBounds]
    by_cases e : i = j
    · subst e; simp [hs, hi]
    · rw [if_neg e]
      show _ = some (Value.bool (if j = i then b else f j))
      rw [if_neg (fun h' : j = i => e h'.symm)]; exact hc j hj
end
theorem BRow.made {W : World} {lo g N : Nat} (h : W.ownsRow lo 4 1 (.slice (some ⟨g, 0, none⟩) N N) N (madeCells (Value.bool false).cells (N * 1)).toList) : BRow W g N (fun _ => false) ∧ lo ≤ g := by
  obtain ⟨_, h | ⟨g', cap, cur, hv, hb, hh, hn, hm, hs, ht⟩⟩ := h
  · cases h.1
  · cases hv
    rw [Nat.mul_one] at hs ht
    have hcl : cur.toList = (madeCells (Value.bool false).cells N).toList := by
      rw [← ht, List.take_of_length_le (by rw [Array.length_toList]; omega)]
    refine ⟨⟨cur, hh, hs, fun j hj => ?_⟩, hb⟩
    rw [← Array.getElem?_toList, hcl, Array.getElem?_toList]
    simp [madeCells, hj, Value.cells]
    rw [Nat.mod_one]; rfl
/-! ### elements in memory, as they are read -/
/-- a function that takes a byte: whatever lies in memory behind it -/
def TakeFn (W : World) (f : Value) (p : Pt) : Prop := ∃ (gf : Nat) (bs : Array Value), f = .func (.func gf) #[] bs ∧ (∀ args w, (callFunc gf args).run Tryd.prog w = .ok (.enter gf args) w) ∧
  ∀ (c : UInt8) (W' : World), Below W.heap.size W W' → Calls Tryd.prog gf (#[.int .u8 (c.toNat : Int)] ++ bs) W' (Quiet (p.has c) W')
theorem take_fn {lo : Nat} {W : World} {f : Value} {p : Pt} (h : TakeIs lo W f p) (hp : p.isStar = false) : TakeFn W f p := by
  cases p with
  | star => cases hp
  | any => exact ⟨_, _, h, enters_of Tryd.func48 (by kernel_rfl) rfl, fun c W' _ => takeAny c W'⟩
  | lit d =>
    obtain ⟨B, _, hf, hb⟩ := h
    exact ⟨_, _, hf, enters_of Tryd.func52 (by kernel_rfl) rfl, fun c W' hB => takeLit d c B W' ((hB.block _ hb.lt).trans hb)⟩
  | cls nt ms =>
    obtain ⟨B, C, _, _, hf, hb, hc⟩ := h
    exact ⟨_, _, hf, enters_of Tryd.func60 (by kernel_rfl) rfl, fun c W' hB => takeCls nt ms c B C W' ((hB.block _ hb.lt).trans hb) ((hB.block _ hc.lt).trans hc)⟩
def PartsAt (W : World) (g : Nat) (xs : List (Pt × Value)) : Prop := g < W.heap.size ∧ (∀ i (h : i < xs.length), W.cell? ⟨g, i * 2, none⟩ = some (.bool xs[i].1.isStar) ∧ W.cell? ⟨g, i * 2 + 1, none⟩ = some xs[i].2) ∧ TakesAll 0 W xs
theorem PartsAt.below {W W' : World} {g : Nat} {xs : List (Pt × Value)} (h : PartsAt W g xs) (hB : Below W.heap.size W W') : PartsAt W' g xs := by
  obtain ⟨h1, h2, h3⟩ := h
  exact ⟨Nat.lt_of_lt_of_le h1 hB.size, fun i hi => ⟨(hB.cell (p := ⟨g, i * 2, none⟩) h1).trans (h2 i hi).1, (hB.cell (p := ⟨g, i * 2 + 1, none⟩) h1).trans (h2 i hi).2⟩, h3.below hB⟩
theorem cellsP_at : ∀ (xs : List (Pt × Value)) (i : Nat) (h : i < xs.length), (cellsP xs)[i * 2]? = some (.bool xs[i].1.isStar) ∧ (cellsP xs)[i * 2 + 1]? = some xs[i].2
  | x :: xs, 0, _ => by simp [cellsP]
  | x :: xs, i + 1, h => by
    have ih := cellsP_at xs i (by simpa using h)
    have e : cellsP (x :: xs) = .bool x.1.isStar :: x.2 :: cellsP xs := by simp [cellsP]
    rw [e, show (i + 1) * 2 = i * 2 + 1 + 1 by omega, show i * 2 + 1 + 1 + 1 = (i * 2 + 1) + 1 + 1 by omega]
    simpa using ih
theorem PartsAt.own {W : World} {lo lo2 g cap : Nat} {xs : List (Pt × Value)} (h : W.ownsRow lo 61 2 (.slice (some ⟨g, 0, none⟩) xs.length cap) xs.length (cellsP xs)) (hT : TakesAll lo2 W xs) : PartsAt W g xs ∧ xs.length ≤ cap := by
  obtain ⟨hl, h | ⟨g', cap', cur, hv, hb, hh, hn, hm, hs, ht⟩⟩ := h
  · cases h.1
  · cases hv
    refine ⟨⟨(Array.getElem?_eq_some_iff.1 hh).1, fun i hi => ?_, hT.mono (Nat.zero_le _)⟩, hn⟩
    obtain ⟨c0, c1⟩ := cellsP_at xs i hi
    rw [cell_of_row _ _ _ _ _ _ hh, cell_of_row _ _ _ _ _ _ hh]
    rw [← ht, List.getElem?_take_of_lt (by omega)] at c0 c1
    rw [← Array.getElem?_toList, ← Array.getElem?_toList]
    exact ⟨c0, c1⟩

/-! ### what is reached -/
def reach (ps : List Pt) (s : List UInt8) (i : Nat) : Bool := fits ps (s.take i)
theorem reach_nil (s : List UInt8) (i : Nat) (hi : i ≤ s.length) : reach [] s i = (i == 0) := by
  unfold reach
  rw [fits_nil]
  cases i with
  | zero => rfl
  | succ i => cases s with
    | nil => simp at hi
    | cons => rfl
theorem reach_star0 (ps : List Pt) (s : List UInt8) : reach (ps ++ [.star]) s 0 = reach ps s 0 := by unfold reach; exact fits_snoc_star_nil ps
theorem reach_star (ps : List Pt) {s : List UInt8} {i : Nat} (hi : i < s.length) : reach (ps ++ [.star]) s (i + 1) = (reach ps s (i + 1) || reach (ps ++ [.star]) s i) := by
  unfold reach
  rw [List.take_succ_eq_append_getElem hi, fits_snoc_star]
theorem reach_one0 (ps : List Pt) {p : Pt} (h : p.isStar = false) (s : List UInt8) : reach (ps ++ [p]) s 0 = false := by unfold reach; exact fits_snoc_one_nil ps h
theorem reach_one (ps : List Pt) {p : Pt} (h : p.isStar = false) {s : List UInt8} {i : Nat} (hi : i < s.length) : reach (ps ++ [p]) s (i + 1) = (reach ps s i && p.has s[i]) := by
  unfold reach
  rw [List.take_succ_eq_append_getElem hi, fits_snoc_one ps h]
theorem reach_all (ps : List Pt) (s : List UInt8) : reach ps s s.length = fits ps s := by unfold reach; rw [List.take_length]
/-- a row that is filled up to i -/
def upTo (f : Nat → Bool) (i j : Nat) : Bool := decide (j < i) && f j
theorem upTo_next (f : Nat → Bool) (i : Nat) {b : Bool} (hb : b = f i) (j : Nat) : (if j = i then b else upTo f i j) = upTo f (i + 1) j := by
  unfold upTo
  by_cases h : j = i
  · subst h; simp [hb]
  · rw [if_neg h]
    have : decide (j < i) = decide (j < i + 1) := by rw [decide_eq_decide]; omega
    rw [this]
theorem upTo_lt (f : Nat → Bool) {i j : Nat} (h : j < i) : upTo f i j = f j := by unfold upTo; simp [h]
end Go.Proofs.YtiibodelcfmnpaaDoor
