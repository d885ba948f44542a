/-
  Entries that came in as an argument, out of the statement's own reading.
-/
import Derived.Test.YtjihpbioofikcaaDoorGD
import Derived.Deep.Slices
import Derived.Deep.Fields
import Derived.ChangeSame
namespace Go.Proofs.YtjihpbioofikcaaDoor
open Go.RowKit Go.ChangeShapes Go.WideShapes Go.Deep
set_option linter.unusedVariables false

theorem list_of {α : Type} {P : Nat → α → Prop} : ∀ n, (∀ i, i < n → ∃ e, P i e) → ∃ es : List α, es.length = n ∧ ∀ i (h : i < es.length), P i es[i]
  | 0, _ => ⟨[], rfl, fun i h => by simp at h⟩
  | n + 1, h => by
    obtain ⟨es, hl, he⟩ := list_of n (fun i hi => h i (by omega))
    obtain ⟨e, hp⟩ := h n (by omega)
    refine ⟨es ++ [e], by simp [hl], fun i hi => ?_⟩
    rcases Nat.lt_or_ge i es.length with h1 | h1
    · rw [List.getElem_append_left h1]; exact he i h1
    · obtain rfl : i = n := by simp at hi; omega
      rw [List.getElem_append_right h1]
      simpa [hl] using hp

theorem str_of {s : ByteArray} (h : s.size ≤ maxLen) : ∃ l : List UInt8, s = mkB l ∧ l.length ≤ 9223372036854775807 := by
  refine ⟨s.data.toList, (mkB_self s).symm, ?_⟩
  unfold maxLen at h
  rw [← Lib.size_eq]
  omega
section
variable {H : Type} {enc : TypeId × Value → H} {w : World} {base : Nat} {spare : Nat → Bool} {held : Bool}

set_option maxRecDepth 1000000 in
theorem entry_cells {cs : List Value} {n : Nat} {x : DataW H × List MemPlace} (h : DataW.trod enc Tryd.prog w base spare held n 24 cs = some x) :
    ∃ e : En, cs = [.string (mkB e.path), .int .i64 e.kind, .int .i64 e.mode, .string (mkB e.text)] ∧ e.path.length ≤ 9223372036854775807 ∧ e.text.length ≤ 9223372036854775807 := by
  obtain ⟨xs, n', _, _, hl, hxl, hf⟩ := DataW.trod_struct Tryd.underlying24 h
  rw [show Tryd.prog.cellsOf 24 = 4 by kernel_rfl] at hl
  match cs, hl with
  | [c0, c1, c2, c3], _ =>
    have hx4 : xs.length = 4 := hxl
    match xs, hx4 with
    | [y0, y1, y2, y3], _ =>
      have h0 : DataW.trod enc Tryd.prog w base spare held n' 9 [c0] = some y0 := by have := hf 0 _ rfl; rwa [show Tryd.prog.cellsOf _ = 1 by kernel_rfl] at this
      have h1 : DataW.trod enc Tryd.prog w base spare held n' 3 [c1] = some y1 := by have := hf 1 _ rfl; rwa [show Tryd.prog.cellsOf _ = 1 by kernel_rfl] at this
      have h2 : DataW.trod enc Tryd.prog w base spare held n' 3 [c2] = some y2 := by have := hf 2 _ rfl; rwa [show Tryd.prog.cellsOf _ = 1 by kernel_rfl] at this
      have h3 : DataW.trod enc Tryd.prog w base spare held n' 9 [c3] = some y3 := by have := hf 3 _ rfl; rwa [show Tryd.prog.cellsOf _ = 1 by kernel_rfl] at this
      obtain ⟨s0, e0, _, w0⟩ := DataW.trod_string Tryd.underlying9 h0
      obtain ⟨k1, e1, _, w1⟩ := DataW.trod_int Tryd.underlying3 h1
      obtain ⟨k2, e2, _, w2⟩ := DataW.trod_int Tryd.underlying3 h2
      obtain ⟨s3, e3, _, w3⟩ := DataW.trod_string Tryd.underlying9 h3
      simp at e0 e1 e2 e3
      obtain ⟨l0, rfl, hl0⟩ := str_of w0
      obtain ⟨l3, rfl, hl3⟩ := str_of w3
      exact ⟨⟨l0, k1, k2, l3⟩, by rw [e0, e1, e2, e3], hl0, hl3⟩

set_option maxRecDepth 1000000 in
theorem arg_entries {A : Option Addr} {n c : Nat} {x : DataW H × List MemPlace} (fuel : Nat) (h : DataW.trod enc Tryd.prog w base spare held fuel 22 [.slice A n c] = some x) : ∃ es, ArgE w A n c es := by
  rcases open_slice Tryd.underlying22 h with ⟨hcs, _⟩ | ⟨a, len, cap, m, fl, D, Pl, hcs, _, hl, hm, hmm, _, hi⟩
  · simp at hcs
    obtain ⟨rfl, rfl, rfl⟩ := hcs
    exact ⟨[], rfl, by omega, fun i h => by simp at h, .inl rfl⟩
  · simp at hcs
    obtain ⟨rfl, rfl, rfl⟩ := hcs
    have hlm : n ≤ m := by rw [hmm]; split <;> omega
    have hmx : n ≤ 9223372036854775807 := by unfold maxLen at hm; omega
    rw [show Tryd.prog.cellsOf 24 = 4 by kernel_rfl] at hi
    have hall : ∀ i, i < n → ∃ e : En, (w.cell? (a.add (i * 4)) = some (.string (mkB e.path)) ∧ w.cell? (a.add (i * 4 + 1)) = some (.int .i64 e.kind) ∧ w.cell? (a.add (i * 4 + 2)) = some (.int .i64 e.mode) ∧ w.cell? (a.add (i * 4 + 3)) = some (.string (mkB e.text))) ∧ e.path.length ≤ 9223372036854775807 ∧ e.text.length ≤ 9223372036854775807 := by
      intro i him
      obtain ⟨cs', hc, ht⟩ := hi i (by omega)
      obtain ⟨e, rfl, hp, htx⟩ := entry_cells ht
      obtain ⟨_, hcl, hat⟩ := World.cells?_some hc
      have a0 := hat 0 (by omega)
      have a1 := hat 1 (by omega)
      have a2 := hat 2 (by omega)
      have a3 := hat 3 (by omega)
      rw [add_add] at a0 a1 a2 a3
      exact ⟨e, ⟨a0, a1, a2, a3⟩, hp, htx⟩
    obtain ⟨es, hel, hes⟩ := list_of n hall
    refine ⟨es, hel.symm, hmx, fun i hi => (hes i hi).2, ?_⟩
    rcases Nat.eq_zero_or_pos n with h0 | h0
    · exact .inl (List.eq_nil_of_length_eq_zero (by omega))
    · right
      obtain ⟨b, off, spot⟩ := a
      have hc := (hes 0 (by omega)).1.1
      obtain rfl : spot = none := by simpa [Addr.add] using World.cell?_spot hc
      have hadd : ∀ k, (⟨b, off, none⟩ : Addr).add k = ⟨b, off + k, none⟩ := fun k => by
        unfold Addr.add
        split
        · rename_i h; subst h; rfl
        · rfl
      refine ⟨b, off, rfl, ?_, fun i hi => ?_⟩
      · rcases Nat.lt_or_ge b w.heap.size with h | h
        · exact h
        · rw [hadd] at hc
          simp [World.cell?, Array.getElem?_eq_none h] at hc
      · have h := (hes i hi).1
        simp only [hadd] at h
        simpa only [Nat.add_assoc] using h
end
end Go.Proofs.YtjihpbioofikcaaDoor
