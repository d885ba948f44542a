/-
  Plain functions of trees. No program in sight.
-/
import Derived.Test.YtjihpbioofikcaaDoorPlain
import Derived.Test.YtjihpbioofikcaaDoorBasic
namespace Go.Proofs.YtjihpbioofikcaaDoor
open Go.RowKit
set_option linter.unusedVariables false

/-- an entry of a tree -/
structure En where
  path : List UInt8
  kind : Int
  mode : Int
  text : List UInt8

/-! ### the order of texts -/
abbrev lt (a b : List UInt8) : Bool := Op.bytesLess a b
theorem lt_iff : ∀ (x y : List UInt8), Op.bytesLess x y = decide (x < y)
  | [], [] => by simp [Op.bytesLess]
  | _ :: _, [] => by simp [Op.bytesLess]
  | [], _ :: _ => by simp [Op.bytesLess]
  | a :: x, b :: y => by
    rw [Op.bytesLess, lt_iff x y]
    simp only [List.cons_lt_cons_iff]
    by_cases h1 : a < b <;> by_cases h2 : a = b <;> by_cases h3 : x < y <;> simp [h1, h2, h3]
theorem lt_irrefl (a : List UInt8) : Op.bytesLess a a = false := by rw [lt_iff]; simp [List.lt_irrefl]
theorem lt_trans {a b c : List UInt8} (h : Op.bytesLess a b = true) (k : Op.bytesLess b c = true) : Op.bytesLess a c = true := by
  rw [lt_iff] at *; simp only [decide_eq_true_eq] at *; exact List.lt_trans h k
theorem lt_asymm {a b : List UInt8} (h : Op.bytesLess a b = true) : Op.bytesLess b a = false := by
  cases k : Op.bytesLess b a with
  | false => rfl
  | true => have := lt_trans h k; rw [lt_irrefl] at this; cases this
theorem lt_tri (a b : List UInt8) : Op.bytesLess a b = true ∨ a = b ∨ Op.bytesLess b a = true := by
  induction a generalizing b with
  | nil => cases b with
    | nil => exact .inr (.inl rfl)
    | cons => exact .inl rfl
  | cons x a ih => cases b with
    | nil => exact .inr (.inr rfl)
    | cons y b =>
      simp only [Op.bytesLess, Bool.or_eq_true, Bool.and_eq_true, decide_eq_true_eq, beq_iff_eq]
      rcases Nat.lt_trichotomy x.toNat y.toNat with h | h | h
      · exact .inl (.inl (UInt8.lt_iff_toNat_lt.2 h))
      · have he := UInt8.toNat_inj.1 h
        subst he
        rcases ih b with h | h | h
        · exact .inl (.inr ⟨rfl, h⟩)
        · exact .inr (.inl (by rw [h]))
        · exact .inr (.inr (.inr ⟨rfl, h⟩))
      · exact .inr (.inr (.inl (UInt8.lt_iff_toNat_lt.2 h)))
theorem lt_ne {a b : List UInt8} (h : Op.bytesLess a b = true) : (a == b) = false := by
  rw [beq_eq_false_iff_ne]; rintro rfl; rw [lt_irrefl] at h; cases h
theorem lt_of_not {a b : List UInt8} (h : Op.bytesLess a b = false) (hn : (a == b) = false) : Op.bytesLess b a = true := by
  rcases lt_tri a b with k | k | k
  · rw [k] at h; cases h
  · subst k; simp at hn
  · exact k
theorem lt_prefix (a : List UInt8) (c : UInt8) (t : List UInt8) : Op.bytesLess a (a ++ c :: t) = true := by
  induction a with
  | nil => rfl
  | cons x a ih => simp [Op.bytesLess, ih]
theorem upL_lt {l : List UInt8} (h : upL l ≠ []) : Op.bytesLess (upL l) l = true := by
  rcases split_last 47 l with h1 | ⟨a, c, hc, rfl⟩
  · exact absurd (upL_none h1) h
  · rw [upL_at hc]; exact lt_prefix a 47 c
theorem upL_len (l : List UInt8) : (upL l).length ≤ l.length := by
  rcases split_last 47 l with h1 | ⟨a, c, hc, rfl⟩
  · rw [upL_none h1]; simp
  · rw [upL_at hc]; simp

/-! ### entries -/
def seen (c : UInt8) : Bool := decide (32 ≤ c.toNat ∧ c.toNat ≤ 126)
def fileByte (c : UInt8) : Bool := seen c || c == 10
def fileTextOk (l : List UInt8) : Bool := decide (l.length ≤ 80) && l.all fileByte
def entryOk (e : En) : Bool := pathOk e.path && inI e.mode 0 7 &&
  (if e.kind = 1 then e.text.isEmpty else if e.kind = 2 then fileTextOk e.text else if e.kind = 3 then decide (e.mode = 0) && pathOk e.text else false)
theorem entryOk_path {e : En} (h : entryOk e = true) : pathOk e.path = true := by
  unfold entryOk at h; simp only [Bool.and_eq_true] at h; exact h.1.1

/-- where a path is, or would be -/
def atGo : List En → List UInt8 → Nat
  | [], _ => 0
  | e :: r, p => if Op.bytesLess e.path p then atGo r p + 1 else 0
def there (es : List En) (p : List UInt8) : Bool := match es[atGo es p]? with
  | some e => e.path == p
  | none => false
def dirAt (es : List En) (p : List UInt8) : Bool := match es[atGo es p]? with
  | some e => e.path == p && e.kind == 1
  | none => false
def placeOk (es : List En) (p : List UInt8) : Bool := p.isEmpty || dirAt es p

theorem atGo_le : ∀ (es : List En) (p : List UInt8), atGo es p ≤ es.length
  | [], _ => Nat.le_refl _
  | e :: r, p => by
    unfold atGo
    split
    · have := atGo_le r p; simp; omega
    · simp
theorem atGo_before : ∀ {es : List En} {p : List UInt8} (i : Nat) (h : i < es.length), i < atGo es p → Op.bytesLess es[i].path p = true
  | [], _, i, h, _ => by simp at h
  | e :: r, p, i, h, hi => by
    unfold atGo at hi
    split at hi
    · rename_i he
      cases i with
      | zero => exact he
      | succ j => simpa using atGo_before j (by simpa using h) (by omega)
    · omega
theorem atGo_at : ∀ {es : List En} {p : List UInt8} (h : atGo es p < es.length), Op.bytesLess es[atGo es p].path p = false
  | [], _, h => by simp at h
  | e :: r, p, h => by
    by_cases he : Op.bytesLess e.path p = true
    · have hu : atGo (e :: r) p = atGo r p + 1 := by simp [atGo, he]
      have := atGo_at (es := r) (p := p) (by rw [hu] at h; simpa using h)
      simpa [hu] using this
    · have hu : atGo (e :: r) p = 0 := by simp [atGo, he]
      simp only [hu]
      simpa using he
/-- it is known by its two sides -/
theorem atGo_is : ∀ {es : List En} {p : List UInt8} {k : Nat} (hk : k ≤ es.length) (hb : ∀ i (h : i < es.length), i < k → Op.bytesLess es[i].path p = true) (ha : ∀ h : k < es.length, Op.bytesLess es[k].path p = false), atGo es p = k := by
  intro es p k hk hb ha
  rcases Nat.lt_trichotomy (atGo es p) k with h | h | h
  · have h1 := atGo_at (es := es) (p := p) (by omega)
    rw [hb _ (by omega) h] at h1
    cases h1
  · exact h
  · have hl := atGo_le es p
    have h1 := atGo_before k (by omega) h
    rw [ha (by omega)] at h1
    cases h1

def Sorted (es : List En) : Prop := ∀ i (h : i + 1 < es.length), Op.bytesLess es[i].path es[i + 1].path = true
theorem Sorted.lt {es : List En} (hs : Sorted es) : ∀ (j i : Nat) (hj : j < es.length) (hi : i < j), Op.bytesLess (es[i]'(by omega)).path es[j].path = true
  | 0, i, hj, hi => by omega
  | j + 1, i, hj, hi => by
    rcases Nat.lt_or_ge i j with h | h
    · exact lt_trans (hs.lt j i (by omega) h) (hs j hj)
    · obtain rfl : i = j := by omega
      exact hs i hj
theorem Sorted.take {es : List En} (hs : Sorted es) (k : Nat) : Sorted (es.take k) := by
  intro i h
  simp only [List.length_take] at h
  simpa using hs i (by omega)
/-- what the binary search needs -/
theorem Sorted.mono {es : List En} (hs : Sorted es) {p : List UInt8} {i j : Nat} (hj : j < es.length) (hij : i ≤ j) (h : Op.bytesLess es[j].path p = true) : Op.bytesLess (es[i]'(by omega)).path p = true := by
  rcases Nat.lt_or_ge i j with h1 | h1
  · exact lt_trans (hs.lt j i hj h1) h
  · obtain rfl : i = j := by omega
    exact h

theorem dirAt_take {es : List En} {q : List UInt8} {i : Nat} (hi : i < es.length) (h : Op.bytesLess q es[i].path = true) : dirAt (es.take i) q = dirAt es q := by
  have hk : atGo es q ≤ i := by
    rcases Nat.lt_or_ge i (atGo es q) with h1 | h1
    · have := atGo_before i hi h1
      rw [lt_asymm h] at this
      cases this
    · exact h1
  have ht : atGo (es.take i) q = atGo es q := by
    refine atGo_is (by simp; omega) (fun j hj hjk => ?_) (fun hj => ?_)
    · simpa using atGo_before (es := es) (p := q) j (by omega) hjk
    · simpa using atGo_at (es := es) (p := q) (by omega)
  unfold dirAt
  rw [ht]
  rcases Nat.lt_or_ge (atGo es q) i with h1 | h1
  · rw [List.getElem?_take_of_lt h1]
  · have h2 : atGo es q = i := by omega
    rw [h2]
    rw [List.getElem?_eq_none (by simp; omega), List.getElem?_eq_getElem hi]
    have : (es[i].path == q) = false := by rw [beq_eq_false_iff_ne]; intro e; rw [e, lt_irrefl] at h; cases h
    simp [this]

/-- what a tree is -/
structure TreeIs (es : List En) : Prop where
  len : es.length ≤ 16
  ok : ∀ i (h : i < es.length), entryOk es[i] = true
  sorted : Sorted es
  place : ∀ i (h : i < es.length), placeOk es (upL es[i].path) = true
open Classical in
noncomputable def treeOk (es : List En) : Bool := decide (TreeIs es)
theorem treeOk_yes {es : List En} (h : TreeIs es) : treeOk es = true := by unfold treeOk; simp only [h, decide_true]
theorem treeOk_no {es : List En} (h : ¬ TreeIs es) : treeOk es = false := by unfold treeOk; simp only [h, decide_false]
theorem treeOk_is {es : List En} (h : treeOk es = true) : TreeIs es := by
  by_cases k : TreeIs es
  · exact k
  · rw [treeOk_no k] at h; cases h
theorem place_take {es : List En} {i : Nat} (hi : i < es.length) : placeOk (es.take i) (upL es[i].path) = placeOk es (upL es[i].path) := by
  unfold placeOk
  by_cases h : upL es[i].path = []
  · simp [h]
  · rw [dirAt_take hi (upL_lt h)]

/-- the entry at a path -/
def getAt (es : List En) (p : List UInt8) : Option En := if there es p then es[atGo es p]? else none
theorem there_iff {es : List En} {p : List UInt8} : there es p = true ↔ ∃ h : atGo es p < es.length, es[atGo es p].path = p := by
  unfold there
  rcases Nat.lt_or_ge (atGo es p) es.length with h | h
  · rw [List.getElem?_eq_getElem h]; simp [h]
  · rw [List.getElem?_eq_none h]; simp; omega
theorem getAt_yes {es : List En} {p : List UInt8} (h : there es p = true) : ∃ hk : atGo es p < es.length, getAt es p = some es[atGo es p] := by
  obtain ⟨hk, _⟩ := there_iff.1 h
  exact ⟨hk, by unfold getAt; rw [if_pos h, List.getElem?_eq_getElem hk]⟩
theorem getAt_no {es : List En} {p : List UInt8} (h : there es p = false) : getAt es p = none := by unfold getAt; rw [h]; rfl
end Go.Proofs.YtjihpbioofikcaaDoor
