/-
  What l1Cut's row of texts tells.
-/
import Derived.Test.YtiibodelcfmnpaaDoorCut
namespace Go.Proofs.YtiibodelcfmnpaaDoor
open Go.RowKit

/-- a row of texts of the call's own: what its cells hold -/
theorem strs_cell {w : World} {base g n cap : Nat} {xs : List (List UInt8)} (h : w.ownsRow base 9 1 (.slice (some ⟨g, 0, none⟩) n cap) n (xs.map strV)) (k : Nat) (hk : k < xs.length) : w.cell? ⟨g, k, none⟩ = some (.string (mkB xs[k])) := by
  have hl := h.1
  simp at hl
  rw [h.cellAt k (by omega)]
  simp [strV, hk]

theorem cut_form {w : World} {base : Nat} {v : Value} {b : UInt8} {l : List UInt8} (h : w.ownsRow base 9 1 v (cut b l).length ((cut b l).map strV)) : ∃ g cap, v = .slice (some ⟨g, 0, none⟩) (cut b l).length cap := by
  have hn : 0 < (cut b l).length := List.length_pos_iff.2 (cut_ne_nil b l)
  rcases h.2 with ⟨_, h0⟩ | ⟨g, cap, _, hv, _⟩
  · omega
  · exact ⟨g, cap, hv⟩

theorem take_all_ok {xs : List (List UInt8)} {k : Nat} (hk : k < xs.length) {p : List UInt8 → Bool} (h : (xs.take k).all p = true) (hx : p xs[k] = true) : (xs.take (k + 1)).all p = true := by
  rw [List.take_succ_eq_append_getElem hk, List.all_append, h]; simp [hx]
theorem take_all_no {xs : List (List UInt8)} {k : Nat} (hk : k < xs.length) {p : List UInt8 → Bool} (hx : p xs[k] = false) : xs.all p = false := by
  rw [List.all_eq_false]; exact ⟨xs[k], List.getElem_mem hk, by simp [hx]⟩


end Go.Proofs.YtiibodelcfmnpaaDoor
