/-
  The walks of NeedPut and NeedFits, the program's and the reference's; of szNeed, toNeed, eqNeed.
-/
import Derived.Test.YtdcfifhmldolhaaDoorNeed
import Derived.Deep.QuietTactic
import Derived.BigQuiet
namespace Go.Proofs.YtdcfifhmldolhaaDoor
open Go.RowKit
set_option linter.unusedVariables false
attribute [local go_sem] mkB_size mkB_extract mkB_get mkB_append mkB_append_raw raw_append_mkB mkB_toList

theorem quiet_eq {P : Program} {f : FuncId} {args : Array Value} {w : World} {n : Nat} {v : Value} (h : Calls P f args (w.drewN n) fun e w' => e = .returned v ∧ w.drewN n = w') :
    Calls P f args (w.drewN n) fun e w' => e = .returned v ∧ ∃ m, w' = w.drewN m := h.mono fun _ _ ⟨he, hw⟩ => ⟨he, n, hw.symm⟩
theorem below_drewN {a w : World} {n : Nat} (h : Below n a w) (k : Nat) : Below n a (w.drewN k) := ⟨h.os, h.tape, h.output, h.size, h.block⟩
theorem int_bounds {k : Int} (h : (Lit.int .i64 k).wf = true) : -9223372036854775808 ≤ k ∧ k ≤ 9223372036854775807 := by
  have e1 : IntKind.min .i64 = -9223372036854775808 := by decide
  have e2 : IntKind.max .i64 = 9223372036854775807 := by decide
  simp only [Lit.wf, e1, e2, Bool.and_eq_true, decide_eq_true_eq] at h
  exact h
/-- a need's box behind a call -/
theorem cells3 {w w1 : World} {a b c : Value} {t : TypeId} (hB : Below (w.alloc (.cells #[a, b, c] t)).heap.size (w.alloc (.cells #[a, b, c] t)) w1) :
    w1.cell? ⟨w.heap.size, 0, none⟩ = some a ∧ w1.cell? ⟨w.heap.size, 1, none⟩ = some b ∧ w1.cell? ⟨w.heap.size, 2, none⟩ = some c := by
  have h := World.alloc_heap_new w (.cells #[a, b, c] t)
  refine ⟨(hB.cell (by simp)).trans ?_, (hB.cell (by simp)).trans ?_, (hB.cell (by simp)).trans ?_⟩ <;> (rw [cell_of_row _ _ _ _ _ _ h]; rfl)
theorem kinds4 {nm vr : List UInt8} {kd : Int} (h : needOk nm kd vr = true) : kd = 0 ∨ kd = 1 ∨ kd = 2 ∨ kd = 3 := by
  have := needOk_len h; omega
theorem needText_zero {nm vr : List UInt8} (h : needOk nm 0 vr = true) : needText nm 0 vr = nm := by
  rcases boolOf (packOk nm) with hp | hp
  · rw [needOk_pack hp.out] at h; cases h
  · rw [needOk_any hp.out] at h
    cases vr with
    | nil => simp [needText, sign]
    | cons => cases h
theorem needPut_no {nm vr : List UInt8} {kd : Int} (h : needOk nm kd vr = false) : needPut nm kd vr = [] := by unfold needPut; rw [h]; rfl
theorem needPut_is {nm vr : List UInt8} {kd : Int} (h : needOk nm kd vr = true) : needPut nm kd vr = needText nm kd vr := by unfold needPut; rw [h]; rfl
theorem mkB_nil : mkB [] = ByteArray.empty := rfl

set_option maxHeartbeats 1000000 in
theorem NeedPut_any (nm vr : List UInt8) (kd : Int) (hn : nm.length ≤ 140737488355328) (hv : vr.length ≤ 140737488355328) (w : World) :
    Calls Tryd.prog 9 #[.agg #[.string (mkB nm), .int .i64 kd, .string (mkB vr)]] w fun e w' => e = .returned (.string (mkB (needPut nm kd vr))) ∧ Below w.heap.size w w' := by
  rcases boolOf (needOk nm kd vr) with hp | hp
  · rw [needPut_no hp.out]
    go_enter Tryd.func9, Tryd.ntmps9
    go_wp2_with (go_at_call 11; refine (NeedOk_any _ _ _ hn hv _).mono ?_; rintro e w1 ⟨rfl, hB⟩; rw [hp.out])
    go_ret
    exact ⟨rfl, ((Below.refl _ _).alloc (Nat.le_refl _) _).trans (hB.mono (by simp))⟩
  · rw [needPut_is hp.out]
    have hlen := needOk_len hp.out
    have h1 := hlen.1
    have h2 := hlen.2.1
    rcases kinds4 hp.out with rfl | rfl | rfl | rfl
    all_goals
      clear hlen
      go_enter Tryd.func9, Tryd.ntmps9
      go_wp2_with (go_at_call 11; refine (NeedOk_any _ _ _ hn hv _).mono ?_; rintro e w1 ⟨rfl, hB⟩; rw [hp.out]; obtain ⟨hc0, hc1, hc2⟩ := cells3 hB)
      go_ret
      refine ⟨ret_str ?_, ((Below.refl _ _).alloc (Nat.le_refl _) _).trans (hB.mono (by simp))⟩
      first
        | rfl
        | (rw [needText_zero hp.out])

def signText (kd : Int) : ByteArray := mkB (sign kd)
theorem l3Sign_any (kd : Int) (w : World) :
    Calls Tryd.prog 27 #[.int .i64 kd] w fun e w' => e = .returned (.string (mkB (sign kd))) ∧ w = w' := by
  by_cases h1 : kd = 1
  · subst h1
    go_enter Tryd.func27, Tryd.ntmps27
    go_wp2
    go_ret
    exact ⟨rfl, rfl⟩
  · by_cases h2 : kd = 2
    · subst h2
      go_enter Tryd.func27, Tryd.ntmps27
      go_wp2
      go_ret
      exact ⟨rfl, rfl⟩
    · by_cases h3 : kd = 3
      · subst h3
        go_enter Tryd.func27, Tryd.ntmps27
        go_wp2
        go_ret
        exact ⟨rfl, rfl⟩
      · have hs := Lib.hid (show sign kd = [] by unfold sign; rw [if_neg h1, if_neg h2, if_neg h3])
        have k1 : (kd == 1) = false := by rw [beq_eq_false_iff_ne]; exact h1
        have k2 : (kd == 2) = false := by rw [beq_eq_false_iff_ne]; exact h2
        have k3 : (kd == 3) = false := by rw [beq_eq_false_iff_ne]; exact h3
        clear h1 h2 h3
        rw [hs.out]
        go_enter Tryd.func27, Tryd.ntmps27
        go_wp2
        go_ret
        exact ⟨rfl, rfl⟩
theorem sign_len (kd : Int) : (sign kd).length ≤ 2 := by
  unfold sign
  split
  · decide
  · split
    · decide
    · split <;> decide

theorem l3Put_any (nm vr : List UInt8) (kd : Int) (hn : nm.length ≤ 1099511627776) (hv : vr.length ≤ 1099511627776) (w : World) :
    Calls Tryd.prog 19 #[.agg #[.string (mkB nm), .int .i64 kd, .string (mkB vr)]] w fun e w' => e = .returned (.string (mkB (needText nm kd vr))) ∧ Below w.heap.size w w' := by
  have hsl := sign_len kd
  go_enter Tryd.func19, Tryd.ntmps19
  go_wp2_with fail
  go_quiet ((go_at_call 27; exact quiet_eq (l3Sign_any _ _)))
  go_wp2
  go_ret
  refine ⟨ret_str ?_, below_drewN ((Below.refl _ _).alloc (Nat.le_refl _) _) _⟩
  unfold needText
  simp

set_option maxHeartbeats 1000000 in
theorem specNeedPut_any (nm vr : List UInt8) (kd : Int) (hn : nm.length ≤ 1099511627776) (hv : vr.length ≤ 1099511627776) (w : World) :
    Calls Tryd.prog 10 #[.agg #[.string (mkB nm), .int .i64 kd, .string (mkB vr)]] w fun e w' => e = .returned (.string (mkB (needPut nm kd vr))) ∧ Below w.heap.size w w' := by
  rcases boolOf (needOk nm kd vr) with hp | hp
  · rw [needPut_no hp.out]
    go_enter Tryd.func10, Tryd.ntmps10
    go_wp2_with (go_at_call 12; refine (specNeedOk_any _ _ _ hn hv _).mono ?_; rintro e w1 ⟨rfl, hB⟩; rw [hp.out])
    go_ret
    exact ⟨rfl, ((Below.refl _ _).alloc (Nat.le_refl _) _).trans (hB.mono (by simp))⟩
  · rw [needPut_is hp.out]
    go_enter Tryd.func10, Tryd.ntmps10
    go_wp2_with (first
      | (go_at_call 12; refine (specNeedOk_any _ _ _ hn hv _).mono ?_; rintro e w1 ⟨rfl, hB⟩; rw [hp.out]; obtain ⟨hc0, hc1, hc2⟩ := cells3 hB)
      | (go_at_call 19; refine (l3Put_any _ _ _ hn hv _).mono ?_; rintro e w2 ⟨rfl, hB2⟩))
    go_ret
    exact ⟨rfl, (((Below.refl _ _).alloc (Nat.le_refl _) _).trans (hB.mono (by simp))).trans (hB2.mono (by have := hB.size; simp at this; omega))⟩

/-! ### the laws' own functions -/
def szN (nm vr : List UInt8) : Int := if nm.length + vr.length ≤ 1048576 then 1048576 - nm.length - vr.length else -1
set_option maxHeartbeats 1000000 in
theorem eqNeed_any (nm vr : List UInt8) (kd : Int) (w : World) :
    Calls Tryd.prog 7 #[.agg #[.string (mkB nm), .int .i64 kd, .string (mkB vr)], .agg #[.string (mkB nm), .int .i64 kd, .string (mkB vr)]] w fun e w' => e = .returned (.bool true) ∧ Below w.heap.size w w' := by
  go_enter Tryd.func7, Tryd.ntmps7
  go_wp2
  go_ret
  exact ⟨rfl, ((Below.refl _ w).alloc (Nat.le_refl _) _).alloc (by simp) _⟩

/-! ### NeedFits -/
theorem fits_need {nm vr name ver : List UInt8} {kd : Int} (h : needOk nm kd vr = false) : needFits nm kd vr name ver = false := by unfold needFits; rw [h]; rfl
theorem fits_ver {nm vr name ver : List UInt8} {kd : Int} (h : versionOk ver = false) : needFits nm kd vr name ver = false := by unfold needFits; rw [h]; simp
theorem fits_name {nm vr name ver : List UInt8} {kd : Int} (h : name ≠ nm) : needFits nm kd vr name ver = false := by unfold needFits; rw [decide_eq_false h]; simp
theorem fits_kind {nm vr name ver : List UInt8} {kd : Int} (h1 : needOk nm kd vr = true) (h2 : versionOk ver = true) (h3 : name = nm) : needFits nm kd vr name ver = kindFits kd (versionOrder ver vr) := by
  unfold needFits; rw [h1, h2, decide_eq_true h3]; rfl
theorem versionOk_len {l : List UInt8} (h : versionOk l = true) : l.length ≤ 15 := by
  unfold versionOk at h
  cases hv : version l with
  | none => rw [hv] at h; cases h
  | some ns => exact (version_len hv).2

theorem l3Fits_no {nm vr name ver : List UInt8} {kd : Int} (h : name ≠ nm) : (decide (name = nm) && kindFits kd (versionOrder ver vr)) = false := by rw [decide_eq_false h]; rfl
theorem l3Fits_is {vr name ver : List UInt8} {kd : Int} : (decide (name = name) && kindFits kd (versionOrder ver vr)) = kindFits kd (versionOrder ver vr) := by simp

end Go.Proofs.YtdcfifhmldolhaaDoor
