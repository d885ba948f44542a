/-
  The walk of DrawVersionOrder.
-/
import Derived.Test.YtdcfifhmldolhaaDoorDrawN
namespace Go.Proofs.YtdcfifhmldolhaaDoor
open Go.RowKit
set_option linter.unusedVariables false
attribute [local go_sem] mkB_size mkB_extract mkB_get mkB_append mkB_append_raw raw_append_mkB mkB_toList

theorem below_rb {w w1 w2 : World} {rb : Nat} (hB : Below w.heap.size w w1) (hr : w.heap.size ≤ rb) (hg : w1.grownBy w2 (some rb)) : Below w.heap.size w w2 :=
  hB.grown hg hB.size (fun k e => by cases e; exact hr)
def Drawn2 (w : World) (e : Ending) (w' : World) : Prop := ∃ s t, s.length ≤ 20 ∧ t.length ≤ 20 ∧ e = .returned (.tuple #[.string (mkB s), .string (mkB t)]) ∧ Below w.heap.size w w'
theorem IsBytes.more {w : World} {A : Option Addr} {n c : Nat} (h : IsBytes w A n c) (o : Obj) : IsBytes (w.alloc o) A n c := by
  obtain ⟨h1, h2, h3⟩ := h
  refine ⟨h1, h2, ?_⟩
  rcases h3 with h3 | ⟨b, off, rfl, hb, hc⟩
  · exact .inl h3
  · refine .inr ⟨b, off, rfl, by simp; omega, fun i hi => ?_⟩
    obtain ⟨x, hx, hcx⟩ := hc i hi
    exact ⟨x, hx, (cell_of_same (Below.heap_alloc w _ b hb) _).trans hcx⟩

end Go.Proofs.YtdcfifhmldolhaaDoor
