/-
  The walk of the reference's l3Get, plain facts.
-/
import Derived.Test.YtdcfifhmldolhaaDoorNeedG
namespace Go.Proofs.YtdcfifhmldolhaaDoor
open Go.RowKit
set_option linter.unusedVariables false
attribute [local go_sem] mkB_size mkB_extract mkB_get mkB_append mkB_append_raw raw_append_mkB mkB_toList take_left' drop_left'

theorem notSign {c : UInt8} (h : isSign c = false) : ((c.toNat : Int) == 61) = false ∧ ((c.toNat : Int) == 62) = false ∧ ((c.toNat : Int) == 60) = false := by
  unfold isSign at h
  simp only [Bool.or_eq_false_iff, beq_eq_false_iff_ne] at h
  exact ⟨u8_ne h.1.1, u8_ne h.2, u8_ne h.1.2⟩
theorem signAt_before {l : List UInt8} {k : Nat} (h : signAt l = some k) : ∀ j (hj : j < l.length), j < k → isSign l[j] = false := by
  induction l generalizing k with
  | nil => cases h
  | cons c r ih =>
    simp only [signAt] at h
    cases hc : isSign c with
    | true => rw [hc] at h; cases h; intro j _ hj; exact absurd hj (Nat.not_lt_zero _)
    | false =>
      rw [hc] at h
      cases hs : signAt r with
      | none => rw [hs] at h; cases h
      | some m =>
        rw [hs] at h
        cases h
        intro j hj hjk
        cases j with
        | zero => exact hc
        | succ i => simpa using ih hs i (by simpa using hj) (by simpa using hjk)
theorem signAt_never {l : List UInt8} (h : signAt l = none) : ∀ j (hj : j < l.length), isSign l[j] = false := by
  induction l with
  | nil => intro j hj; simp at hj
  | cons c r ih =>
    simp only [signAt] at h
    cases hc : isSign c with
    | true => rw [hc] at h; cases h
    | false =>
      rw [hc] at h
      cases hs : signAt r with
      | none =>
        intro j hj
        cases j with
        | zero => exact hc
        | succ i => simpa using ih hs i (by simpa using hj)
      | some m => rw [hs] at h; cases h
theorem before_get {nm r : List UInt8} (h : signAt (nm ++ r) = some nm.length) (j : Nat) (hj : j < nm.length) : isSign nm[j] = false := by
  have h2 := signAt_before h j (by simp; omega) hj
  rwa [List.getElem_append_left hj] at h2
theorem Box3.apart {W : World} {B : Nat} {t : TypeId} {a b c : Value} (h : Box3 W B t a b c) {g j : Nat} (hne : B ≠ g) (v : Value) : Box3 (W.setCell ⟨g, j, none⟩ v) B t a b c := (Below.heap_setCell _ _ _ B hne).trans h
theorem at_len {nm r : List UInt8} {c : UInt8} (h : nm.length < (nm ++ c :: r).length) : (nm ++ c :: r)[nm.length] = c := by simp

end Go.Proofs.YtdcfifhmldolhaaDoor
