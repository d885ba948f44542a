/-
  MarkP, Mark, MarkE: merged.
-/
import Derived.Test.YtiknkjhdieepbaaDoorGD
import Derived.Deep.RegionHeld3
import Derived.Laws.IdiomStrings
/-
  Marks, plainly; slices of entries that may be empty.
-/
namespace Go.Proofs.YtiknkjhdieepbaaDoor
open Go.RowKit
set_option linter.unusedVariables false
set_option linter.unusedSimpArgs false

/-- a number's figures ahead of others -/
def figs : Nat → Nat → List UInt8 → List UInt8
  | 0, _, out => out
  | f + 1, k, out => if k = 0 then out else figs f (k / 10) (UInt8.ofNat (48 + k % 10) :: out)
def markT (k : Nat) : List UInt8 := 109 :: figs (k + 1) k []
theorem figs_zero (f : Nat) (out : List UInt8) : figs f 0 out = out := by cases f <;> simp [figs]
theorem figs_more : ∀ (f g k : Nat) (out : List UInt8), k < f → k < g → figs f k out = figs g k out
  | 0, _, _, _, h, _ => absurd h (Nat.not_lt_zero _)
  | _ + 1, 0, _, _, _, h => absurd h (Nat.not_lt_zero _)
  | f + 1, g + 1, k, out, h1, h2 => by
    unfold figs
    by_cases h : k = 0
    · rw [if_pos h, if_pos h]
    · rw [if_neg h, if_neg h]; exact figs_more f g (k / 10) _ (by omega) (by omega)
theorem figs_step {k : Nat} {out : List UInt8} (h : k ≠ 0) : figs (k + 1) k out = figs (k / 10 + 1) (k / 10) (UInt8.ofNat (48 + k % 10) :: out) := by
  conv => lhs; unfold figs
  rw [if_neg h]
  exact figs_more _ _ _ _ (by omega) (by omega)
def markEn (q : Nat) : En := ⟨markT q, ((q + 1 : Nat) : Int), ((q + 2 : Nat) : Int), markT (q + 3)⟩
def marks (n q : Nat) : List En := (List.range n).map (fun i => markEn (q + 4 * i))
theorem marks_length (n q : Nat) : (marks n q).length = n := by simp [marks]
theorem marks_get {n q i : Nat} (h : i < (marks n q).length) : (marks n q)[i] = markEn (q + 4 * i) := by simp [marks]

/-- entries in a slice that may be empty -/
def SlE (w : World) (A : Option Addr) (es : List En) : Prop := es = [] ∨ ∃ g, A = some ⟨g, 0, none⟩ ∧ Ents w g es
theorem SlE.of {w : World} {g : Nat} {es : List En} (h : Ents w g es) : SlE w (some ⟨g, 0, none⟩) es := .inr ⟨g, rfl, h⟩
/-- the same, and it may be written -/
def OwnE (w : World) (lo : Nat) (A : Option Addr) (es : List En) : Prop := es = [] ∨ ∃ g m, A = some ⟨g, 0, none⟩ ∧ lo ≤ g ∧ es.length ≤ m ∧ RowE w g m es.length es
theorem OwnE.sl {w : World} {lo : Nat} {A : Option Addr} {es : List En} (h : OwnE w lo A es) : SlE w A es := by
  rcases h with h | ⟨g, m, h1, _, _, h2⟩
  · exact .inl h
  · exact .inr ⟨g, h1, h2.ents⟩

/-! ### rows as lists of cells -/
def cellsE (e : En) : List Value := [.string (mkB e.path), .int .i64 e.kind, .int .i64 e.mode, .string (mkB e.text)]
def flatE (es : List En) : List Value := es.flatMap cellsE
theorem flatE_cons (e : En) (r : List En) : flatE (e :: r) = .string (mkB e.path) :: .int .i64 e.kind :: .int .i64 e.mode :: .string (mkB e.text) :: flatE r := rfl
theorem flatE_append (a b : List En) : flatE (a ++ b) = flatE a ++ flatE b := by simp [flatE]
theorem flatE_length : ∀ es : List En, (flatE es).length = es.length * 4
  | [] => rfl
  | e :: r => by rw [flatE_cons]; simp only [List.length_cons, flatE_length r]; omega
theorem flatE_get : ∀ (es : List En) (i : Nat) (h : i < es.length), (flatE es)[i * 4]? = some (.string (mkB es[i].path)) ∧ (flatE es)[i * 4 + 1]? = some (.int .i64 es[i].kind) ∧ (flatE es)[i * 4 + 2]? = some (.int .i64 es[i].mode) ∧ (flatE es)[i * 4 + 3]? = some (.string (mkB es[i].text))
  | [], i, h => by simp at h
  | e :: r, 0, _ => ⟨rfl, rfl, rfl, rfl⟩
  | e :: r, i + 1, h => by
    have hi := flatE_get r i (by simpa using h)
    rw [flatE_cons, show (i + 1) * 4 = i * 4 + 1 + 1 + 1 + 1 by omega]
    refine ⟨by simpa using hi.1, ?_, ?_, ?_⟩
    · rw [show i * 4 + 1 + 1 + 1 + 1 + 1 = i * 4 + 1 + 1 + 1 + 1 + 1 from rfl]; simpa using hi.2.1
    · rw [show i * 4 + 1 + 1 + 1 + 1 + 2 = i * 4 + 2 + 1 + 1 + 1 + 1 by omega]; simpa using hi.2.2.1
    · rw [show i * 4 + 1 + 1 + 1 + 1 + 3 = i * 4 + 3 + 1 + 1 + 1 + 1 by omega]; simpa using hi.2.2.2
theorem flatE_one (es : List En) : ∀ u ∈ flatE es, u.oneCell' = true := by
  intro u hu
  simp only [flatE, cellsE, List.mem_flatMap, List.mem_cons, List.not_mem_nil, or_false] at hu
  obtain ⟨e, _, rfl | rfl | rfl | rfl⟩ := hu <;> rfl
theorem Ents.flat {w : World} {g : Nat} {es : List En} (h : Ents w g es) : ∀ j u, (flatE es)[j]? = some u → w.cell? ((⟨g, 0, none⟩ : Addr).add j) = some u := by
  intro j u hu
  rw [add_of_head]
  have hj : j < es.length * 4 := by
    have := (List.getElem?_eq_some_iff.1 hu).1
    rwa [flatE_length] at this
  have hi : j / 4 < es.length := by omega
  obtain ⟨c0, c1, c2, c3⟩ := h.2 (j / 4) hi
  obtain ⟨d0, d1, d2, d3⟩ := flatE_get es (j / 4) hi
  have hr : j = j / 4 * 4 ∨ j = j / 4 * 4 + 1 ∨ j = j / 4 * 4 + 2 ∨ j = j / 4 * 4 + 3 := by omega
  rcases hr with hr | hr | hr | hr
  · rw [← hr] at c0 d0; rw [d0] at hu; rw [c0]; exact hu
  · rw [← hr] at c1 d1; rw [d1] at hu; rw [c1]; exact hu
  · rw [← hr] at c2 d2; rw [d2] at hu; rw [c2]; exact hu
  · rw [← hr] at c3 d3; rw [d3] at hu; rw [c3]; exact hu
theorem RowE.of_own {w : World} {base g n cap : Nat} {es : List En} (h : w.ownsRow base 30 4 (.slice (some ⟨g, 0, none⟩) n cap) n (flatE es)) : RowE w g cap es.length es := by
  obtain ⟨hl, h | ⟨g', cap', cur, hv, _, hh, hnc, _, hs, ht⟩⟩ := h
  · cases h.1
  · cases hv
    rw [flatE_length] at hl
    have hget : ∀ j, j < n * 4 → cur[j]? = (flatE es)[j]? := fun j hj => by rw [← ht, List.getElem?_take_of_lt hj, Array.getElem?_toList]
    refine ⟨cur, hh, hs, fun i hi _ => ?_⟩
    obtain ⟨d0, d1, d2, d3⟩ := flatE_get es i hi
    exact ⟨(hget _ (by omega)).trans d0, (hget _ (by omega)).trans d1, (hget _ (by omega)).trans d2, (hget _ (by omega)).trans d3⟩
end Go.Proofs.YtiknkjhdieepbaaDoor

/-
  The walks of markText, markEntryS, heldEntryS, and of eqEntryS at slices that may be empty.
-/
namespace Go.Proofs.YtiknkjhdieepbaaDoor
open Go.RowKit
set_option linter.unusedVariables false
set_option linter.unusedSimpArgs false
attribute [local go_sem] mkB_size mkB_extract mkB_get mkB_append mkB_append_raw raw_append_mkB mkB_toList

/-- entries in a slice that may be empty, and their block -/
def MarkPost (es : List En) (n k : Nat) (A : Option Addr) (w : World) (r : Ending) (w' : World) : Prop :=
  r = .returned (.int .i64 ((k + 4 * n : Nat) : Int)) ∧ (n = 0 ∧ w = w' ∨ ∃ g m, A = some ⟨g, 0, none⟩ ∧ n ≤ m ∧ RowE w' g m n (marks n k) ∧ w.grownBy w' (some g))
end Go.Proofs.YtiknkjhdieepbaaDoor

/-
  The walks of markEntryS, heldEntryS, and of eqEntryS at slices that may be empty.
-/
namespace Go.Proofs.YtiknkjhdieepbaaDoor
open Go.RowKit
set_option linter.unusedVariables false
set_option linter.unusedSimpArgs false
attribute [local go_sem] mkB_size mkB_extract mkB_get mkB_append mkB_append_raw raw_append_mkB mkB_toList

theorem gr_below {w a b : World} {g : Nat} (h : w.grownBy a (some g)) (hB : Below a.heap.size a b) : w.grownBy b (some g) :=
  ⟨hB.os.trans h.os, hB.tape.trans h.tape, hB.output.trans h.output, Nat.le_trans h.size hB.size, fun k hk hne => (hB.block k (Nat.lt_of_lt_of_le hk h.size)).trans (h.block k hk hne)⟩
theorem gr_set {w a : World} {g : Nat} (h : w.grownBy a (some g)) (j : Nat) (v : Value) : w.grownBy (a.setCell ⟨g, j, none⟩ v) (some g) :=
  ⟨h.os, h.tape, h.output, by have := h.size; simp; omega, fun k hk hne => (Below.heap_setCell _ _ _ k (fun e => hne (by rw [e]))).trans (h.block k hk hne)⟩
theorem RowE.putA {w : World} {g n k : Nat} {es : List En} {cur : Array Value}
    (hh : w.heap[g]? = some (.cells ((((cur.setIfInBounds (k * 4) (.string (mkB (es.getD k ⟨[], 0, 0, []⟩).path))).setIfInBounds (k * 4 + 1) (.int .i64 (es.getD k ⟨[], 0, 0, []⟩).kind)).setIfInBounds (k * 4 + 2) (.int .i64 (es.getD k ⟨[], 0, 0, []⟩).mode)).setIfInBounds (k * 4 + 3) (.string (mkB (es.getD k ⟨[], 0, 0, []⟩).text))) 30 (0, 0)))
    (hs : cur.size = n * 4) (hc : ∀ i (h : i < es.length), i < k → cur[i * 4]? = some (.string (mkB es[i].path)) ∧ cur[i * 4 + 1]? = some (.int .i64 es[i].kind) ∧ cur[i * 4 + 2]? = some (.int .i64 es[i].mode) ∧ cur[i * 4 + 3]? = some (.string (mkB es[i].text)))
    (hk : k < es.length) (hn : es.length ≤ n) : RowE w g n (k + 1) es := by
  refine ⟨_, hh, by simp [hs], fun i hi hik => ?_⟩
  simp only [Array.getElem?_setIfInBounds, Array.size_setIfInBounds, hs]
  rcases Nat.lt_or_ge i k with h1 | h1
  · obtain ⟨c0, c1, c2, c3⟩ := hc i hi h1
    refine ⟨?_, ?_, ?_, ?_⟩
    · rw [if_neg (by omega), if_neg (by omega), if_neg (by omega), if_neg (by omega)]; exact c0
    · rw [if_neg (by omega), if_neg (by omega), if_neg (by omega), if_neg (by omega)]; exact c1
    · rw [if_neg (by omega), if_neg (by omega), if_neg (by omega), if_neg (by omega)]; exact c2
    · rw [if_neg (by omega), if_neg (by omega), if_neg (by omega), if_neg (by omega)]; exact c3
  · obtain rfl : i = k := by omega
    have hg : es.getD i ⟨[], 0, 0, []⟩ = es[i] := by rw [List.getD_eq_getElem?_getD, List.getElem?_eq_getElem hi]; rfl
    rw [hg]
    refine ⟨?_, ?_, ?_, ?_⟩
    · rw [if_neg (by omega), if_neg (by omega), if_neg (by omega), if_pos rfl, if_pos (by omega)]
    · rw [if_neg (by omega), if_neg (by omega), if_pos rfl, if_pos (by omega)]
    · rw [if_neg (by omega), if_pos rfl, if_pos (by omega)]
    · rw [if_pos rfl, if_pos (by omega)]
theorem marks_getD {n k i : Nat} (h : i < n) : (marks n k).getD i ⟨[], 0, 0, []⟩ = markEn (k + 4 * i) := by
  rw [List.getD_eq_getElem?_getD, List.getElem?_eq_getElem (by rw [marks_length]; exact h), marks_get]; rfl

/-! ### slices that may be empty -/
end Go.Proofs.YtiknkjhdieepbaaDoor

