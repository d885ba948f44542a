/-
  Entries in memory: a box of one, a row of many.
-/
import Derived.Test.YtjihpbioofikcaaDoorPlainT
import Derived.Test.YtjihpbioofikcaaDoorPathF
import Derived.Laws.Cover1
namespace Go.Proofs.YtjihpbioofikcaaDoor
open Go.RowKit
set_option linter.unusedVariables false

theorem cell_same {w w' : World} {b : Nat} (h : w'.heap[b]? = w.heap[b]?) (i : Nat) : w'.cell? ⟨b, i, none⟩ = w.cell? ⟨b, i, none⟩ := by simp only [World.cell?, h]
theorem row_cell (w : World) (b : Nat) (cs : Array Value) (t : TypeId) (n : Nat) (i : Nat) (h : w.heap[b]? = some (.cells cs t (0, n))) : w.cell? ⟨b, i, none⟩ = cs[i]? := by simp [World.cell?, h]
/-- a box of four cells -/
def Box4 (W : World) (B : Nat) (t : TypeId) (a b c d : Value) : Prop := W.heap[B]? = some (.cells #[a, b, c, d] t (0, 0))
section
variable {W W' : World} {B : Nat} {t : TypeId} {a b c d : Value}
theorem Box4.new (w : World) (t : TypeId) (a b c d : Value) : Box4 (w.alloc (.cells #[a, b, c, d] t)) w.heap.size t a b c d := World.alloc_heap_new w _
theorem Box4.cell0 (h : Box4 W B t a b c d) : W.cell? ⟨B, 0, none⟩ = some a := by rw [row_cell _ _ _ _ _ _ h]; rfl
theorem Box4.cell1 (h : Box4 W B t a b c d) : W.cell? ⟨B, 1, none⟩ = some b := by rw [row_cell _ _ _ _ _ _ h]; rfl
theorem Box4.cell2 (h : Box4 W B t a b c d) : W.cell? ⟨B, 2, none⟩ = some c := by rw [row_cell _ _ _ _ _ _ h]; rfl
theorem Box4.cell3 (h : Box4 W B t a b c d) : W.cell? ⟨B, 3, none⟩ = some d := by rw [row_cell _ _ _ _ _ _ h]; rfl
theorem Box4.frozen (h : Box4 W B t a b c d) (j : Nat) : W.frozen? ⟨B, j, none⟩ = false := by
  unfold Box4 at h
  simp [World.frozen?, h]
theorem Box4.lt (h : Box4 W B t a b c d) : B < W.heap.size := (Array.getElem?_eq_some_iff.1 h).1
theorem Box4.kept {row : Option Nat} (h : Box4 W B t a b c d) (hg : W.grownBy W' row) (hne : some B ≠ row) : Box4 W' B t a b c d := (hg.block B h.lt hne).trans h
theorem Box4.drew (h : Box4 W B t a b c d) : Box4 W.drew B t a b c d := h
theorem Box4.below {n : Nat} (h : Box4 W B t a b c d) (hB : Below n W W') (hlt : B < n) : Box4 W' B t a b c d := (hB.block B hlt).trans h
theorem Box4.apart (h : Box4 W B t a b c d) {g j : Nat} (hne : B ≠ g) (v : Value) : Box4 (W.setCell ⟨g, j, none⟩ v) B t a b c d := (Below.heap_setCell _ _ _ B hne).trans h
theorem Box4.set0 (h : Box4 W B t a b c d) (v : Value) : Box4 (W.setCell ⟨B, 0, none⟩ v) B t v b c d := by
  unfold Box4 at h ⊢
  simp [World.setCell, Array.getElem?_modify, h]
theorem Box4.set1 (h : Box4 W B t a b c d) (v : Value) : Box4 (W.setCell ⟨B, 1, none⟩ v) B t a v c d := by
  unfold Box4 at h ⊢
  simp [World.setCell, Array.getElem?_modify, h]
theorem Box4.set2 (h : Box4 W B t a b c d) (v : Value) : Box4 (W.setCell ⟨B, 2, none⟩ v) B t a b v d := by
  unfold Box4 at h ⊢
  simp [World.setCell, Array.getElem?_modify, h]
theorem Box4.set3 (h : Box4 W B t a b c d) (v : Value) : Box4 (W.setCell ⟨B, 3, none⟩ v) B t a b c v := by
  unfold Box4 at h ⊢
  simp [World.setCell, Array.getElem?_modify, h]
end

/-- an entry as a value -/
abbrev enV (e : En) : Value := .agg #[.string (mkB e.path), .int .i64 e.kind, .int .i64 e.mode, .string (mkB e.text)]
def EBox (W : World) (B : Nat) (e : En) : Prop := Box4 W B 31 (.string (mkB e.path)) (.int .i64 e.kind) (.int .i64 e.mode) (.string (mkB e.text))
/-- entries lie in block g, from its head -/
def Ents (w : World) (g : Nat) (es : List En) : Prop := g < w.heap.size ∧ ∀ i (h : i < es.length),
  w.cell? ⟨g, i * 4, none⟩ = some (.string (mkB es[i].path)) ∧ w.cell? ⟨g, i * 4 + 1, none⟩ = some (.int .i64 es[i].kind) ∧
  w.cell? ⟨g, i * 4 + 2, none⟩ = some (.int .i64 es[i].mode) ∧ w.cell? ⟨g, i * 4 + 3, none⟩ = some (.string (mkB es[i].text))
theorem Ents.below {w w' : World} {g n : Nat} {es : List En} (h : Ents w g es) (hB : Below n w w') (hg : g < n) : Ents w' g es :=
  ⟨by have := (hB.block g hg); have h1 := h.1; rw [Array.getElem?_eq_getElem h1] at this; exact (Array.getElem?_eq_some_iff.1 this).1,
   fun i hi => by
    have hb := hB.block g hg
    obtain ⟨h0, h1, h2, h3⟩ := h.2 i hi
    exact ⟨(cell_same hb _).trans h0, (cell_same hb _).trans h1, (cell_same hb _).trans h2, (cell_same hb _).trans h3⟩⟩
theorem Ents.alloc {w : World} {g : Nat} {es : List En} (h : Ents w g es) (o : Obj) : Ents (w.alloc o) g es :=
  h.below ((Below.refl _ _).alloc (Nat.le_refl _) o) h.1
theorem Ents.drew {w : World} {g : Nat} {es : List En} (h : Ents w g es) : Ents w.drew g es := h
theorem Ents.take {w : World} {g : Nat} {es : List En} (h : Ents w g es) (k : Nat) : Ents w g (es.take k) := by
  refine ⟨h.1, fun i hi => ?_⟩
  simp only [List.length_take] at hi
  simpa using h.2 i (by omega)
/-- the texts are not great -/
def Small (es : List En) : Prop := es.length ≤ 1048576 ∧ ∀ i (h : i < es.length), es[i].path.length ≤ 1048576 ∧ es[i].text.length ≤ 1048576
theorem Small.take {es : List En} (h : Small es) (k : Nat) : Small (es.take k) := by
  refine ⟨by have := h.1; simp; omega, fun i hi => ?_⟩
  simp only [List.length_take] at hi
  simpa using h.2 i (by omega)

/-! ### comparing -/
def cmpT (a b : List UInt8) : Int := if Op.bytesLess a b then -1 else if Op.bytesLess b a then 1 else 0
theorem cmpT_lt {a b : List UInt8} (h : Op.bytesLess a b = true) : cmpT a b = -1 := by unfold cmpT; rw [h]; rfl
theorem cmpT_eq (a : List UInt8) : cmpT a a = 0 := by unfold cmpT; rw [lt_irrefl]; rfl
theorem cmpT_gt {a b : List UInt8} (h : Op.bytesLess b a = true) : cmpT a b = 1 := by unfold cmpT; rw [lt_asymm h, h]; rfl

attribute [local go_sem] mkB_size mkB_extract mkB_get mkB_append mkB_append_raw raw_append_mkB mkB_toList
set_option maxHeartbeats 1000000 in
theorem isNaN_any (a : ByteArray) (w : World) : Calls Tryd.prog 139 #[.string a] w fun e w' => e = .returned (.bool false) ∧ w = w' := by
  go_enter Tryd.func139, Tryd.ntmps139
  go_wp2
  go_ret
  exact ⟨by simp, rfl⟩
set_option maxHeartbeats 1000000 in
theorem Compare_any (a b : List UInt8) (w : World) : Calls Tryd.prog 105 #[.string (mkB a), .string (mkB b)] w fun e w' => e = .returned (.int .i64 (cmpT a b)) ∧ w = w' := by
  rcases lt_tri a b with h | h | h
  · have hk := lt_asymm h
    have hc := Lib.hid (cmpT_lt h)
    go_enter Tryd.func105, Tryd.ntmps105
    go_wp2_with (go_at_call 139; refine (isNaN_any _ _).mono ?_; rintro e w' ⟨rfl, rfl⟩)
    go_ret
    exact ⟨by rw [hc.out]; rfl, rfl⟩
  · subst h
    have hk := lt_irrefl a
    have hc := Lib.hid (cmpT_eq a)
    go_enter Tryd.func105, Tryd.ntmps105
    go_wp2_with (go_at_call 139; refine (isNaN_any _ _).mono ?_; rintro e w' ⟨rfl, rfl⟩)
    go_ret
    exact ⟨by rw [hc.out]; rfl, rfl⟩
  · have hk := lt_asymm h
    have hne : (a == b) = false := by rw [beq_eq_false_iff_ne]; rintro rfl; rw [lt_irrefl] at h; cases h
    have hc := Lib.hid (cmpT_gt h)
    go_enter Tryd.func105, Tryd.ntmps105
    go_wp2_with (go_at_call 139; refine (isNaN_any _ _).mono ?_; rintro e w' ⟨rfl, rfl⟩)
    go_ret
    exact ⟨by rw [hc.out]; rfl, rfl⟩
set_option maxHeartbeats 1000000 in
theorem byPath_any (a b : List UInt8) (k1 m1 k2 m2 : Int) (s t : List UInt8) (w : World) :
    Calls Tryd.prog 64 #[.agg #[.string (mkB a), .int .i64 k1, .int .i64 m1, .string (mkB s)], .agg #[.string (mkB b), .int .i64 k2, .int .i64 m2, .string (mkB t)]] w fun e w' => e = .returned (.int .i64 (cmpT a b)) ∧ Below w.heap.size w w' := by
  go_enter Tryd.func64, Tryd.ntmps64
  go_wp2_with (go_at_call 105; refine (Compare_any _ _ _).mono ?_; rintro e w' ⟨rfl, rfl⟩)
  go_ret
  exact ⟨rfl, ((Below.refl _ _).alloc (Nat.le_refl _) _).alloc (by simp) _⟩
end Go.Proofs.YtjihpbioofikcaaDoor
