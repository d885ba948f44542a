/-
  Entries that were handed back, behind what comes after.
-/
import Derived.Test.YtiknkjhdieepbaaDoorGF
import Derived.Test.YtiknkjhdieepbaaDoorGE
namespace Go.Proofs.YtiknkjhdieepbaaDoor
open Go.RowKit
set_option linter.unusedVariables false
set_option linter.unusedSimpArgs false

theorem RowE.gr {w w' : World} {g gx n k : Nat} {es : List En} (h : RowE w g n k es) (hg : w.grownBy w' (some gx)) (hne : g ≠ gx) : RowE w' g n k es := by
  have hl := h.lt
  obtain ⟨cur, hh, hs⟩ := h
  exact ⟨cur, (hg.block g hl (fun e => hne (by injection e))).trans hh, hs⟩
theorem OwnE.below {w w' : World} {lo : Nat} {A : Option Addr} {es : List En} (h : OwnE w lo A es) (hB : Below w.heap.size w w') : OwnE w' lo A es := by
  rcases h with h | ⟨g, m, h1, h2, h3, h4⟩
  · exact .inl h
  · exact .inr ⟨g, m, h1, h2, h3, h4.below hB h4.lt⟩
theorem OwnE.gr {w w' : World} {lo gx : Nat} {A : Option Addr} {es : List En} (h : OwnE w lo A es) (hg : w.grownBy w' (some gx)) (hlt : gx < lo) : OwnE w' lo A es := by
  rcases h with h | ⟨g, m, h1, h2, h3, h4⟩
  · exact .inl h
  · exact .inr ⟨g, m, h1, h2, h3, h4.gr hg (by omega)⟩
theorem SlE.below {w w' : World} {A : Option Addr} {es : List En} (h : SlE w A es) (hB : Below w.heap.size w w') : SlE w' A es := by
  rcases h with h | ⟨g, h1, h2⟩
  · exact .inl h
  · exact .inr ⟨g, h1, h2.below hB h2.1⟩
/-- entries below a bound -/
def SlB (w : World) (hi : Nat) (A : Option Addr) (es : List En) : Prop := es = [] ∨ ∃ g, A = some ⟨g, 0, none⟩ ∧ g < hi ∧ Ents w g es
theorem SlB.sl {w : World} {hi : Nat} {A : Option Addr} {es : List En} (h : SlB w hi A es) : SlE w A es := by
  rcases h with h | ⟨g, h1, _, h2⟩
  · exact .inl h
  · exact .inr ⟨g, h1, h2⟩
theorem SlB.of {w : World} {lo : Nat} {A : Option Addr} {es : List En} (h : OwnE w lo A es) : SlB w w.heap.size A es := by
  rcases h with h | ⟨g, m, h1, h2, h3, h4⟩
  · exact .inl h
  · exact .inr ⟨g, h1, h4.lt, h4.ents⟩
theorem SlB.below {w w' : World} {hi n : Nat} {A : Option Addr} {es : List En} (h : SlB w hi A es) (hB : Below n w w') (hn : hi ≤ n) : SlB w' hi A es := by
  rcases h with h | ⟨g, h1, h2, h3⟩
  · exact .inl h
  · exact .inr ⟨g, h1, h2, h3.below hB (by omega)⟩
theorem gr_is_below {w w' : World} {gx n : Nat} (hg : w.grownBy w' (some gx)) (hn : n ≤ gx) (hs : n ≤ w.heap.size) : Below n w w' := (Below.refl n w).grown hg hs (fun k e => by cases e; exact hn)

theorem dropL_len (es : List En) (p : List UInt8) : (dropL es p).length ≤ es.length := List.length_filter_le _ _
theorem treeDrop_len (es : List En) (p : List UInt8) : (treeDrop es p).1.length ≤ es.length := by
  unfold treeDrop
  split
  · split
    · exact dropL_len es p
    · exact Nat.le_refl _
  · simp
end Go.Proofs.YtiknkjhdieepbaaDoor
