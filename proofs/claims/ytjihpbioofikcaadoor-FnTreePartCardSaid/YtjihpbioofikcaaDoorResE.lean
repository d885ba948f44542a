/-
  Entries that were handed back, behind what comes after.
-/
import Derived.Test.YtjihpbioofikcaaDoorGF
import Derived.Test.YtjihpbioofikcaaDoorGE
namespace Go.Proofs.YtjihpbioofikcaaDoor
open Go.RowKit
set_option linter.unusedVariables false
set_option linter.unusedSimpArgs false

theorem RowE.gr {w w' : World} {g gx n k : Nat} {es : List En} (h : RowE w g n k es) (hg : w.grownBy w' (some gx)) (hne : g ≠ gx) : RowE w' g n k es := by
  have hl := h.lt
  obtain ⟨cur, hh, hs⟩ := h
  exact ⟨cur, (hg.block g hl (fun e => hne (by injection e))).trans hh, hs⟩
theorem OwnE.below {w w' : World} {lo : Nat} {A : Option Addr} {es : List En} (h : OwnE w lo A es) (hB : Below w.heap.size w w') : OwnE w' lo A es := by
  rcases h with h | ⟨g, m, h1, h2, h3, h4⟩
  · exact .inl h
  · exact .inr ⟨g, m, h1, h2, h3, h4.below hB h4.lt⟩
theorem OwnE.gr {w w' : World} {lo gx : Nat} {A : Option Addr} {es : List En} (h : OwnE w lo A es) (hg : w.grownBy w' (some gx)) (hlt : gx < lo) : OwnE w' lo A es := by
  rcases h with h | ⟨g, m, h1, h2, h3, h4⟩
  · exact .inl h
  · exact .inr ⟨g, m, h1, h2, h3, h4.gr hg (by omega)⟩
theorem SlE.below {w w' : World} {A : Option Addr} {es : List En} (h : SlE w A es) (hB : Below w.heap.size w w') : SlE w' A es := by
  rcases h with h | ⟨g, h1, h2⟩
  · exact .inl h
  · exact .inr ⟨g, h1, h2.below hB h2.1⟩
/-- entries below a bound -/
def SlB (w : World) (hi : Nat) (A : Option Addr) (es : List En) : Prop := es = [] ∨ ∃ g, A = some ⟨g, 0, none⟩ ∧ g < hi ∧ Ents w g es
theorem SlB.sl {w : World} {hi : Nat} {A : Option Addr} {es : List En} (h : SlB w hi A es) : SlE w A es := by
  rcases h with h | ⟨g, h1, _, h2⟩
  · exact .inl h
  · exact .inr ⟨g, h1, h2⟩
theorem SlB.of {w : World} {lo : Nat} {A : Option Addr} {es : List En} (h : OwnE w lo A es) : SlB w w.heap.size A es := by
  rcases h with h | ⟨g, m, h1, h2, h3, h4⟩
  · exact .inl h
  · exact .inr ⟨g, h1, h4.lt, h4.ents⟩
theorem SlB.below {w w' : World} {hi n : Nat} {A : Option Addr} {es : List En} (h : SlB w hi A es) (hB : Below n w w') (hn : hi ≤ n) : SlB w' hi A es := by
  rcases h with h | ⟨g, h1, h2, h3⟩
  · exact .inl h
  · exact .inr ⟨g, h1, h2, h3.below hB (by omega)⟩
theorem gr_is_below {w w' : World} {gx n : Nat} (hg : w.grownBy w' (some gx)) (hn : n ≤ gx) (hs : n ≤ w.heap.size) : Below n w w' := (Below.refl n w).grown hg hs (fun k e => by cases e; exact hn)

/-- entries of the call's own are marked -/
theorem markOwn (es : List En) (A : Option Addr) (c lo : Nat) (w : World) (hO : OwnE w lo A es) (hn : es.length ≤ 1048576) (hlo : lo ≤ w.heap.size) :
    Calls Tryd.prog 26 #[.slice A es.length c, .int .i64 1] w fun r w' => r = .returned (.int .i64 ((1 + 4 * es.length : Nat) : Int)) ∧ SlE w' A (marks es.length 1) ∧ Below lo w w' := by
  rcases hO with rfl | ⟨g, m, rfl, h2, h3, h4⟩
  · exact (markEntryS_nil A c 1 w).mono fun r w' h => ⟨h.1, .inl rfl, by rw [h.2]; exact Below.refl _ _⟩
  · have hR : RowE w g m 0 (marks es.length 1) := by
      obtain ⟨cur, hh, hs, _⟩ := h4
      exact ⟨cur, hh, hs, fun i _ hi => by omega⟩
    refine (markEntryS_any es.length g m c 1 w hR h3 hn (Nat.le_refl _) (by omega)).mono fun r w' h => ⟨h.1, .inr ⟨g, rfl, ?_⟩, gr_is_below h.2.2 h2 hlo⟩
    have hr := h.2.1
    have hl := marks_length es.length 1
    exact RowE.ents (n := m) (by rw [hl]; exact hr)
theorem heldSl (n c : Nat) (A : Option Addr) (w : World) (hS : SlE w A (marks n 1)) (hn : n ≤ 1048576) :
    Calls Tryd.prog 27 #[.slice A n c, .int .i64 1] w fun r w' => r = .returned (.int .i64 ((1 + 4 * n : Nat) : Int)) ∧ Below w.heap.size w w' := by
  rcases hS with h | ⟨g, rfl, h⟩
  · have h0 : n = 0 := by have := congrArg List.length h; rw [marks_length] at this; simpa using this
    subst h0
    exact (heldEntryS_nil A c 1 w).mono fun r w' h => ⟨h.1, by rw [h.2]; exact Below.refl _ _⟩
  · exact heldEntryS_any n g c 1 w h hn (Nat.le_refl _) (by omega)

theorem dropL_len (es : List En) (p : List UInt8) : (dropL es p).length ≤ es.length := List.length_filter_le _ _
theorem treeDrop_len (es : List En) (p : List UInt8) : (treeDrop es p).1.length ≤ es.length := by
  unfold treeDrop
  split
  · split
    · exact dropL_len es p
    · exact Nat.le_refl _
  · simp
end Go.Proofs.YtjihpbioofikcaaDoor
