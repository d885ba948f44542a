/-
  Plain laws of needs that fit. No program in sight.
-/
import Derived.Test.YtgocnaeignachaaDoorNeedF
import Derived.Test.YtgocnaeignachaaDoorPlainVO
namespace Go.Proofs.YtgocnaeignachaaDoor
open Go.RowKit

theorem fits_other {nm vr ver : List UInt8} {kd : Int} : needFits nm kd vr (nm ++ [120]) ver = false := fits_name (by simp)
theorem fits_empty {nm vr ver : List UInt8} {kd : Int} : needFits nm kd vr [] ver = false := by
  cases nm with
  | nil => exact fits_need (needOk_pack rfl)
  | cons c r => exact fits_name (by simp)
theorem fits_parts {nm vr name ver : List UInt8} {kd : Int} (h : needFits nm kd vr name ver = true) : needOk nm kd vr = true ∧ versionOk ver = true := by
  unfold needFits at h
  simp only [Bool.and_eq_true] at h
  exact ⟨h.1.1.1, h.1.1.2⟩
theorem needOk_parts {nm vr : List UInt8} {kd : Int} (h : needOk nm kd vr = true) (h0 : kd ≠ 0) : packOk nm = true ∧ versionOk vr = true ∧ 1 ≤ kd ∧ kd ≤ 3 := by
  rcases boolOf (packOk nm) with hp | hp
  · rw [needOk_pack hp.out] at h; cases h
  · rcases kinds kd with rfl | ⟨h1, h3⟩ | hk
    · exact absurd rfl h0
    · rw [needOk_kind hp.out h1 h3] at h; exact ⟨hp.out, h, h1, h3⟩
    · rw [needOk_else hk] at h; cases h
theorem fits_from {nm vr ver : List UInt8} (hp : packOk nm = true) (hv : versionOk vr = true) (hve : versionOk ver = true) : needFits nm 2 vr nm ver = decide (0 ≤ versionOrder ver vr) := by
  rw [fits_kind (by rw [needOk_kind hp (by omega) (by omega)]; exact hv) hve rfl]; rfl
theorem fits_less {nm vr ver : List UInt8} (hp : packOk nm = true) (hv : versionOk vr = true) (hve : versionOk ver = true) : needFits nm 3 vr nm ver = decide (versionOrder ver vr < 0) := by
  rw [fits_kind (by rw [needOk_kind hp (by omega) (by omega)]; exact hv) hve rfl]; rfl
theorem fits_same {nm vr ver : List UInt8} (hp : packOk nm = true) (hv : versionOk vr = true) (hve : versionOk ver = true) : needFits nm 1 vr nm ver = decide (versionOrder ver vr = 0) := by
  rw [fits_kind (by rw [needOk_kind hp (by omega) (by omega)]; exact hv) hve rfl]; rfl
theorem fits_any {nm ver : List UInt8} (hp : packOk nm = true) (hve : versionOk ver = true) : needFits nm 0 [] nm ver = true := by
  rw [fits_kind (by rw [needOk_any hp]; rfl) hve rfl]; rfl
theorem cmpL_vals : ∀ x y : List Nat, cmpL x y = -1 ∨ cmpL x y = 0 ∨ cmpL x y = 1
  | [], [] => .inr (.inl rfl)
  | [], _ :: _ => .inl rfl
  | _ :: _, [] => .inr (.inr rfl)
  | a :: r, b :: q => by
    simp only [cmpL]
    by_cases h : a < b
    · rw [if_pos h]; exact .inl rfl
    · rw [if_neg h]
      by_cases h2 : b < a
      · rw [if_pos h2]; exact .inr (.inr rfl)
      · rw [if_neg h2]; exact cmpL_vals r q
theorem order_vals (a b : List UInt8) : versionOrder a b = -1 ∨ versionOrder a b = 0 ∨ versionOrder a b = 1 := by
  unfold versionOrder
  cases version a with
  | none => exact .inr (.inl rfl)
  | some x =>
    cases version b with
    | none => exact .inr (.inl rfl)
    | some y => exact cmpL_vals x y

end Go.Proofs.YtgocnaeignachaaDoor
