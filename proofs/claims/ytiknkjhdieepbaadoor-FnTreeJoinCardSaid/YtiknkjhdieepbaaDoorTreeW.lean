/-
  The walks of TreeFollow: the reference's and the program's.
-/
import Derived.Test.YtiknkjhdieepbaaDoorTreeG
namespace Go.Proofs.YtiknkjhdieepbaaDoor
open Go.RowKit
set_option linter.unusedVariables false
set_option linter.unusedSimpArgs false
attribute [local go_sem] mkB_size mkB_extract mkB_get mkB_append mkB_append_raw raw_append_mkB mkB_toList

/-- what is at the end of links, so many of them at most -/
def follow (es : List En) : Nat → List UInt8 → Option En
  | 0, p => match getAt es p with
    | some e => if e.kind = 3 then none else some e
    | none => none
  | n + 1, p => match getAt es p with
    | some e => if e.kind = 3 then follow es n e.text else some e
    | none => none
/-- the same, of what has been found so far -/
def goOn (es : List En) (n : Nat) (x : Option En) : Option En := match x with
  | some e => if e.kind = 3 then (match n with
    | 0 => none
    | n + 1 => follow es n e.text) else some e
  | none => none
theorem follow_goOn (es : List En) (n : Nat) (p : List UInt8) : follow es n p = goOn es n (getAt es p) := by
  cases n <;> rfl
noncomputable def treeFollow (es : List En) (p : List UInt8) : Option En := if treeOk es = true then follow es 16 p else none
theorem treeFollow_bad {es : List En} {p : List UInt8} (h : treeOk es = false) : treeFollow es p = none := by unfold treeFollow; rw [h]; rfl
theorem treeFollow_ok {es : List En} {p : List UInt8} (h : treeOk es = true) : treeFollow es p = follow es 16 p := by unfold treeFollow; rw [if_pos h]
theorem treeGet_ok {es : List En} {p : List UInt8} (h : treeOk es = true) : treeGet es p = getAt es p := by unfold treeGet; rw [if_pos h]
theorem goOn_none (es : List En) (n : Nat) : goOn es n none = none := rfl
theorem goOn_end {es : List En} {n : Nat} {e : En} (h : ¬ e.kind = 3) : goOn es n (some e) = some e := by unfold goOn; simp [h]
theorem goOn_link {es : List En} {n : Nat} {e : En} (h : e.kind = 3) : goOn es (n + 1) (some e) = goOn es n (getAt es e.text) := by
  rw [← follow_goOn]; simp [goOn, h]
theorem goOn_last {es : List En} {e : En} (h : e.kind = 3) : goOn es 0 (some e) = none := by simp [goOn, h]
theorem getAt_mem {es : List En} {p : List UInt8} {e : En} (h : getAt es p = some e) : ∃ k, ∃ hk : k < es.length, es[k] = e := by
  unfold getAt at h
  split at h
  · obtain ⟨hk, he⟩ := List.getElem?_eq_some_iff.1 h
    exact ⟨_, hk, he⟩
  · cases h

/-- the reference's count of links that are left -/
def left (n : Nat) : Int := (n : Int) - 1
def res (es : List En) (n : Nat) (p : List UInt8) : Option En := match n with
  | 0 => none
  | m + 1 => follow es m p
theorem res_no {es : List En} {n : Nat} {p : List UInt8} (h : there es p = false) : res es n p = none := by
  cases n with
  | zero => rfl
  | succ m => show follow es m p = none; rw [follow_goOn, getAt_no h]; rfl
theorem getAt_k {es : List En} {p : List UInt8} {k : Nat} (hk : k < es.length) (ha : atGo es p = k) (ht : there es p = true) : getAt es p = some es[k] := by
  subst ha
  exact (getAt_yes ht).2
theorem res_end {es : List En} {m k : Nat} {p : List UInt8} (hk : k < es.length) (ha : atGo es p = k) (ht : there es p = true) (h3 : ¬ es[k].kind = 3) : res es (m + 1) p = some es[k] := by
  show follow es m p = _; rw [follow_goOn, getAt_k hk ha ht, goOn_end h3]
theorem res_link {es : List En} {m k : Nat} {p : List UInt8} (hk : k < es.length) (ha : atGo es p = k) (ht : there es p = true) (h3 : es[k].kind = 3) : res es (m + 1) p = res es m es[k].text := by
  show follow es m p = _; rw [follow_goOn, getAt_k hk ha ht]
  cases m with
  | zero => exact goOn_last h3
  | succ q => rw [goOn_link h3, ← follow_goOn]; rfl
theorem entV_form (x : Option En) : ∃ (e0 : En) (b : Bool), entV x = .tuple #[.agg #[.string (mkB e0.path), .int .i64 e0.kind, .int .i64 e0.mode, .string (mkB e0.text)], .bool b] := by
  cases x with
  | none => exact ⟨⟨[], 0, 0, []⟩, false, rfl⟩
  | some e => exact ⟨e, true, rfl⟩

def found (x : Option En) (e : En) (b : Bool) : Prop := (x = none ∧ b = false) ∨ (x = some e ∧ b = true)
theorem treeGet_small {es : List En} (hsm : Small es) {q : List UInt8} {e : En} (h : treeGet es q = some e) : e.text.length ≤ 1048576 := by
  unfold treeGet at h
  split at h
  · obtain ⟨k, hk, rfl⟩ := getAt_mem h
    exact (hsm.2 k hk).2
  · cases h
/-- what TreeGet hands back, in parts -/
theorem treeGet_parts (es : List En) (hsm : Small es) (q : List UInt8) : ∃ (e : En) (b : Bool), entV (treeGet es q) = .tuple #[.agg #[.string (mkB e.path), .int .i64 e.kind, .int .i64 e.mode, .string (mkB e.text)], .bool b] ∧ found (treeGet es q) e b ∧ e.text.length ≤ 1048576 := by
  cases h : treeGet es q with
  | none => exact ⟨⟨[], 0, 0, []⟩, false, rfl, .inl ⟨rfl, rfl⟩, by simp⟩
  | some e => exact ⟨e, true, rfl, .inr ⟨rfl, rfl⟩, treeGet_small hsm h⟩
theorem treeFollow_get {es : List En} {q : List UInt8} : goOn es 16 (treeGet es q) = treeFollow es q := by
  cases h : treeOk es with
  | false => rw [treeGet_bad h, treeFollow_bad h]; rfl
  | true => rw [treeGet_ok h, treeFollow_ok h, follow_goOn]
theorem goOn_step {es : List En} {k : Nat} {e : En} (hok : treeOk es = true) (hk : k < 16) (h3 : e.kind = 3) : goOn es (16 - (k + 1)) (treeGet es e.text) = goOn es (16 - k) (some e) := by
  rw [treeGet_ok hok, show 16 - k = (16 - (k + 1)) + 1 by omega, goOn_link h3]
theorem treeGet_some_ok {es : List En} {q : List UInt8} {e : En} (h : treeGet es q = some e) : treeOk es = true := by
  unfold treeGet at h; split at h
  · assumption
  · cases h

end Go.Proofs.YtiknkjhdieepbaaDoor
