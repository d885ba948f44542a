/-
  TreePut, with the room of what it hands back.
-/
import Derived.Test.YtiknkjhdieepbaaDoorNilE
namespace Go.Proofs.YtiknkjhdieepbaaDoor
open Go.RowKit
set_option linter.unusedVariables false
set_option linter.unusedSimpArgs false
attribute [local go_sem] mkB_size mkB_extract mkB_get mkB_append mkB_append_raw raw_append_mkB mkB_toList

/-- entries of the call's own: none at all, or in a block -/
def OwnC (w : World) (lo : Nat) (A : Option Addr) (c : Nat) (es : List En) : Prop := (A = none ∧ c = 0 ∧ es = []) ∨ ∃ g, A = some ⟨g, 0, none⟩ ∧ OwnR w lo g c es
theorem OwnR.c {w : World} {lo g c : Nat} {es : List En} (h : OwnR w lo g c es) : OwnC w lo (some ⟨g, 0, none⟩) c es := .inr ⟨g, rfl, h⟩
theorem OwnC.ine {w : World} {lo c : Nat} {A : Option Addr} {es : List En} (h : OwnC w lo A c es) : InE w A c es := by
  rcases h with h | ⟨g, h1, h2⟩
  · exact .inl h
  · exact .inr ⟨g, h1, h2.parts.1.ents, h2.parts.2.2.1⟩
theorem InE.sl {w : World} {c : Nat} {A : Option Addr} {es : List En} (h : InE w A c es) : SlE w A es := by
  rcases h with ⟨_, _, h⟩ | ⟨g, h1, h2, _⟩
  · exact .inl h
  · exact .inr ⟨g, h1, h2⟩
def ResC (x : List En × Bool) (w : World) (r : Ending) (w' : World) : Prop := ∃ A c', r = .returned (.tuple #[.slice A x.1.length c', .bool x.2]) ∧ OwnC w' w.heap.size A c' x.1 ∧ Below w.heap.size w w'

end Go.Proofs.YtiknkjhdieepbaaDoor
