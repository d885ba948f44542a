/-
  The walks of the reference's l2Consts and l2Block.
-/
import Derived.Test.YtcgnoohllfbmcaaDoorSumS
namespace Go.Proofs.YtcgnoohllfbmcaaDoor
open Go.RowKit
set_option linter.unusedVariables false
set_option linter.unusedSimpArgs false

theorem RowV.lit (w : World) (e : TypeId) (xs : List Value) (hm : xs.length ≤ maxLen) {A : Array Value} (hA : xs.toArray = A) : RowV (w.alloc (.cells A e)) e w.heap.size w.heap.size xs.length xs := by
  subst hA
  exact ⟨Nat.le_refl _, Nat.le_refl _, hm, _, (0, 0), World.alloc_heap_new w _, .inl rfl, by simp, by simp⟩
theorem RowV.setW {w : World} {e : TypeId} {lo g cap : Nat} {ws : List UInt32} (h : RowV w e lo g cap (ws.map wV)) (k : Nat) (v : UInt32) : RowV (w.setCell ⟨g, k, none⟩ (.int .u32 (v.toNat : Int))) e lo g cap ((ws.set k v).map wV) := by
  obtain ⟨h1, h2, h3, cur, fz, hh, hf, hs, ht⟩ := h
  refine ⟨h1, by simpa using h2, h3, _, fz, row_setF hh, by simpa using hf, by simpa using hs, ?_⟩
  rw [Array.toList_setIfInBounds, List.length_map, List.length_set, List.take_set]
  rw [List.length_map] at ht
  rw [ht, List.map_set]
  rfl
theorem RowV.lower {w : World} {e : TypeId} {lo lo' g cap : Nat} {xs : List Value} (h : RowV w e lo g cap xs) (hl : lo' ≤ lo) : RowV w e lo' g cap xs := ⟨Nat.le_trans hl h.1, h.2⟩
theorem addS_at (s t : S8) {i : Nat} (h : i < 8) : (addS s t).list.take (i + 1) = (addS s t).list.take i ++ [addW (s.list.getD i 0) (t.list.getD i 0)] := by
  have hc : i = 0 ∨ i = 1 ∨ i = 2 ∨ i = 3 ∨ i = 4 ∨ i = 5 ∨ i = 6 ∨ i = 7 := by omega
  rcases hc with rfl | rfl | rfl | rfl | rfl | rfl | rfl | rfl <;> rfl
theorem l2Consts_any (w : World) : Calls Tryd.prog 23 #[] w (ResV 27 (sumKs.map wV) w) := by
  go_enter Tryd.func23, Tryd.ntmps23
  go_wp2
  go_ret
  exact ⟨w.heap.size, 64, rfl, RowV.lit w _ (sumKs.map wV) (by decide) rfl, (Below.refl _ _).alloc (Nat.le_refl _) _⟩
/-- the state, shifted m times -/
def shL (t : S8) : Nat → List UInt32
  | 0 => [t.a, t.b, t.c, t.d, t.e, t.f, t.g, t.h]
  | 1 => [t.a, t.b, t.c, t.d, t.e, t.f, t.g, t.g]
  | 2 => [t.a, t.b, t.c, t.d, t.e, t.f, t.f, t.g]
  | 3 => [t.a, t.b, t.c, t.d, t.e, t.e, t.f, t.g]
  | 4 => [t.a, t.b, t.c, t.d, t.d, t.e, t.f, t.g]
  | 5 => [t.a, t.b, t.c, t.c, t.d, t.e, t.f, t.g]
  | 6 => [t.a, t.b, t.b, t.c, t.d, t.e, t.f, t.g]
  | _ => [t.a, t.a, t.b, t.c, t.d, t.e, t.f, t.g]

end Go.Proofs.YtcgnoohllfbmcaaDoor
