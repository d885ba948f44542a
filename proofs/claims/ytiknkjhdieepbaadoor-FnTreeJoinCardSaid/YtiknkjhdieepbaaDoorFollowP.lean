/-
  Following links, plainly: sixteen entries need no more than fifteen links.
-/
import Derived.Test.YtiknkjhdieepbaaDoorTreeW
import Derived.Test.YtiknkjhdieepbaaDoorMoveP
namespace Go.Proofs.YtiknkjhdieepbaaDoor
open Go.RowKit
set_option linter.unusedVariables false
set_option linter.unusedSimpArgs false

theorem follow_zero (es : List En) (p : List UInt8) : follow es 0 p = goOn es 0 (getAt es p) := follow_goOn es 0 p
theorem follow_mono {es : List En} : ∀ {n : Nat} {p : List UInt8} {e : En}, follow es n p = some e → follow es (n + 1) p = some e
  | 0, p, e, h => by
    rw [follow_goOn] at h ⊢
    cases hg : getAt es p with
    | none => rw [hg] at h; cases h
    | some x =>
      rw [hg] at h
      by_cases h3 : x.kind = 3
      · rw [goOn_last h3] at h; cases h
      · rw [goOn_end h3] at h ⊢; exact h
  | n + 1, p, e, h => by
    rw [follow_goOn] at h ⊢
    cases hg : getAt es p with
    | none => rw [hg] at h; cases h
    | some x =>
      rw [hg] at h
      by_cases h3 : x.kind = 3
      · rw [goOn_link h3, ← follow_goOn] at h ⊢; exact follow_mono h
      · rw [goOn_end h3] at h ⊢; exact h
theorem follow_le {es : List En} {n m : Nat} {p : List UInt8} {e : En} (h : follow es n p = some e) (hm : n ≤ m) : follow es m p = some e := by
  obtain ⟨d, rfl⟩ := Nat.exists_eq_add_of_le hm
  clear hm
  induction d with
  | zero => exact h
  | succ d ih => exact follow_mono ih
theorem countP_lt {α : Type} {p q : α → Bool} : ∀ {l : List α}, (∀ x ∈ l, p x = true → q x = true) → (∃ x ∈ l, q x = true ∧ p x = false) → l.countP p < l.countP q
  | [], _, ⟨x, hx, _⟩ => by simp at hx
  | a :: l, h, ⟨x, hx, hq, hp⟩ => by
    have hle : l.countP p ≤ l.countP q := List.countP_mono_left (fun y hy => h y (by simp [hy]))
    rcases List.mem_cons.1 hx with rfl | hx
    · rw [List.countP_cons_of_neg (by simp [hp]), List.countP_cons_of_pos hq]; omega
    · have ih := countP_lt (l := l) (fun y hy => h y (by simp [hy])) ⟨x, hx, hq, hp⟩
      by_cases ha : p a = true
      · rw [List.countP_cons_of_pos ha, List.countP_cons_of_pos (h a (by simp) ha)]; omega
      · have := List.countP_cons (p := q) (a := a) (l := l)
        rw [List.countP_cons_of_neg ha]
        omega
theorem getAt_path {es : List En} {p : List UInt8} {e : En} (h : getAt es p = some e) : e ∈ es ∧ e.path = p := by
  unfold getAt at h
  split at h
  · rename_i ht
    obtain ⟨hk, he⟩ := there_iff.1 ht
    rw [List.getElem?_eq_getElem hk] at h
    cases h
    exact ⟨List.getElem_mem hk, he⟩
  · cases h
/-- an end found by so many links and no fewer: that many entries, and one, lie on the way -/
theorem follow_count {es : List En} : ∀ (n : Nat) (p : List UInt8) (e : En), follow es n p = some e → (n = 0 ∨ follow es (n - 1) p = none) → n + 1 ≤ es.countP (fun x => (follow es n x.path).isSome)
  | 0, p, e, h, _ => by
    have h1 := h
    rw [follow_goOn] at h1
    cases hg : getAt es p with
    | none => rw [hg] at h1; cases h1
    | some x =>
      obtain ⟨hm, hp⟩ := getAt_path hg
      have : 0 < es.countP (fun x => (follow es 0 x.path).isSome) := List.countP_pos_iff.2 ⟨x, hm, by rw [hp, h]; rfl⟩
      omega
  | n + 1, p, e, h, hno => by
    have hno : follow es n p = none := by simpa using hno
    have h1 := h
    have h2 := hno
    rw [follow_goOn] at h1 h2
    cases hg : getAt es p with
    | none => rw [hg] at h1; cases h1
    | some x =>
      obtain ⟨hm, hp⟩ := getAt_path hg
      rw [hg] at h1 h2
      by_cases h3 : x.kind = 3
      · rw [goOn_link h3, ← follow_goOn] at h1
        have hno2 : n = 0 ∨ follow es (n - 1) x.text = none := by
          cases n with
          | zero => exact .inl rfl
          | succ m => right; rw [goOn_link h3, ← follow_goOn] at h2; simpa using h2
        have ih := follow_count n x.text e h1 hno2
        have hlt : es.countP (fun x => (follow es n x.path).isSome) < es.countP (fun x => (follow es (n + 1) x.path).isSome) := by
          refine countP_lt (fun y hy hyp => ?_) ⟨x, hm, ?_, ?_⟩
          · obtain ⟨z, hz⟩ := Option.isSome_iff_exists.1 hyp
            rw [follow_mono hz]; rfl
          · rw [hp, h]; rfl
          · rw [hp, hno]; rfl
        omega
      · rw [goOn_end h3] at h2; cases h2
theorem follow_least {es : List En} : ∀ (n : Nat) (p : List UInt8) (e : En), follow es n p = some e → ∃ m, m ≤ n ∧ follow es m p = some e ∧ (m = 0 ∨ follow es (m - 1) p = none)
  | 0, p, e, h => ⟨0, Nat.le_refl _, h, .inl rfl⟩
  | n + 1, p, e, h => by
    cases hn : follow es n p with
    | none => exact ⟨n + 1, Nat.le_refl _, h, .inr hn⟩
    | some x =>
      have := follow_mono hn
      rw [h] at this
      cases this
      obtain ⟨m, hm, h1, h2⟩ := follow_least n p e hn
      exact ⟨m, by omega, h1, h2⟩
theorem follow_enough {es : List En} {n : Nat} {p : List UInt8} {e : En} (hl : es.length ≤ 16) (h : follow es n p = some e) : follow es 15 p = some e := by
  obtain ⟨m, hm, h1, h2⟩ := follow_least n p e h
  have := follow_count m p e h1 h2
  have := List.countP_le_length (p := fun x : En => (follow es m x.path).isSome) (l := es)
  exact follow_le h1 (by omega)
theorem follow_15 {es : List En} (hl : es.length ≤ 16) (p : List UInt8) : follow es 16 p = follow es 15 p := by
  cases h : follow es 16 p with
  | some e => exact (follow_enough hl h).symm
  | none =>
    cases h2 : follow es 15 p with
    | none => rfl
    | some e => rw [follow_mono h2] at h; cases h
theorem follow_end {es : List En} : ∀ {n : Nat} {p : List UInt8} {e : En}, follow es n p = some e → e ∈ es ∧ e.kind ≠ 3
  | 0, p, e, h => by
    rw [follow_goOn] at h
    cases hg : getAt es p with
    | none => rw [hg] at h; cases h
    | some x =>
      rw [hg] at h
      by_cases h3 : x.kind = 3
      · rw [goOn_last h3] at h; cases h
      · rw [goOn_end h3] at h; cases h; exact ⟨(getAt_path hg).1, h3⟩
  | n + 1, p, e, h => by
    rw [follow_goOn] at h
    cases hg : getAt es p with
    | none => rw [hg] at h; cases h
    | some x =>
      rw [hg] at h
      by_cases h3 : x.kind = 3
      · rw [goOn_link h3, ← follow_goOn] at h; exact follow_end h
      · rw [goOn_end h3] at h; cases h; exact ⟨(getAt_path hg).1, h3⟩
theorem getAt_self {es : List En} (hs : Sorted es) {e : En} (he : e ∈ es) : getAt es e.path = some e := by
  obtain ⟨i, hi, rfl⟩ := List.getElem_of_mem he
  have ha := atGo_mem hs hi
  exact getAt_k hi ha ((there_mem hs _).2 ⟨_, he, rfl⟩)
/-! a fresh link -/
theorem getAt_none_iff {es : List En} (hs : Sorted es) {p : List UInt8} : getAt es p = none ↔ ∀ x ∈ es, x.path ≠ p := by
  constructor
  · intro h x hx he
    have := getAt_self hs hx
    rw [he, h] at this; cases this
  · intro h
    cases hg : getAt es p with
    | none => rfl
    | some e => obtain ⟨h1, h2⟩ := getAt_path hg; exact absurd h2 (h e h1)
theorem getAt_is {es : List En} (hs : Sorted es) {p : List UInt8} {e : En} : getAt es p = some e ↔ e ∈ es ∧ e.path = p :=
  ⟨getAt_path, fun ⟨h1, h2⟩ => by rw [← h2]; exact getAt_self hs h1⟩
theorem getAt_same {a b : List En} (ha : Sorted a) (hb : Sorted b) {p : List UInt8} (h : ∀ e, (e ∈ a ∧ e.path = p) ↔ (e ∈ b ∧ e.path = p)) : getAt a p = getAt b p := by
  cases hg : getAt a p with
  | none =>
    symm
    rw [getAt_none_iff hb]
    intro x hx he
    exact (getAt_none_iff ha).1 hg x ((h x).2 ⟨hx, he⟩).1 he
  | some e => exact ((getAt_is hb).2 ((h e).1 ((getAt_is ha).1 hg))).symm
theorem follow_same {a b : List En} {f : List UInt8} (hab : ∀ p, p ≠ f → getAt a p = getAt b p) (ht : ∀ e ∈ a, e.text ≠ f) : ∀ {n : Nat} {p : List UInt8}, p ≠ f → follow a n p = follow b n p
  | 0, p, hp => by
    rw [follow_goOn, follow_goOn, ← hab p hp]
    cases hg : getAt a p with
    | none => rfl
    | some x => rfl
  | n + 1, p, hp => by
    rw [follow_goOn, follow_goOn, ← hab p hp]
    cases hg : getAt a p with
    | none => rfl
    | some x =>
      by_cases h3 : x.kind = 3
      · rw [goOn_link h3, goOn_link h3, ← follow_goOn, ← follow_goOn]
        exact follow_same hab ht (ht x (getAt_path hg).1)
      · rw [goOn_end h3, goOn_end h3]
end Go.Proofs.YtiknkjhdieepbaaDoor
