/-
  Plain functions of needs. No program in sight.
-/
import Derived.Test.YtdcfifhmldolhaaDoorPlainV
import Derived.Test.YtdcfifhmldolhaaDoorBasic
namespace Go.Proofs.YtdcfifhmldolhaaDoor
open Go.RowKit

def low (c : UInt8) : Bool := decide (97 ≤ c.toNat ∧ c.toNat ≤ 122)
def lowDig (c : UInt8) : Bool := low c || digit c
def headLow (l : List UInt8) : Bool := match l with
  | c :: _ => low c
  | [] => false
def packOk (l : List UInt8) : Bool := headLow l && l.all lowDig && decide (l.length ≤ 10)
def needOk (nm : List UInt8) (kd : Int) (vr : List UInt8) : Bool := packOk nm && ((decide (kd = 0) && vr.isEmpty) || (inI kd 1 3 && versionOk vr))
def sign (kd : Int) : List UInt8 := if kd = 1 then [61] else if kd = 2 then [62, 61] else if kd = 3 then [60] else []
def needText (nm : List UInt8) (kd : Int) (vr : List UInt8) : List UInt8 := nm ++ (sign kd ++ vr)
def needPut (nm : List UInt8) (kd : Int) (vr : List UInt8) : List UInt8 := if needOk nm kd vr = true then needText nm kd vr else []
def kindFits (kd : Int) (o : Int) : Bool := if kd = 1 then decide (o = 0) else if kd = 2 then decide (0 ≤ o) else if kd = 3 then decide (o < 0) else true
def needFits (nm : List UInt8) (kd : Int) (vr name ver : List UInt8) : Bool := needOk nm kd vr && versionOk ver && decide (name = nm) && kindFits kd (versionOrder ver vr)

theorem cls (c : UInt8) : (Hid (lowDig c = false ∧ low c = false) ∧ ((c.toNat : Int) < 48 ∨ (57 < (c.toNat : Int) ∧ (c.toNat : Int) < 97) ∨ 122 < (c.toNat : Int))) ∨
    (Hid (lowDig c = true ∧ low c = true) ∧ 97 ≤ (c.toNat : Int) ∧ (c.toNat : Int) ≤ 122) ∨ (Hid (lowDig c = true ∧ low c = false) ∧ 48 ≤ (c.toNat : Int) ∧ (c.toNat : Int) ≤ 57) := by
  by_cases h1 : 97 ≤ c.toNat ∧ c.toNat ≤ 122
  · right; left
    refine ⟨Lib.hid ⟨?_, ?_⟩, by omega, by omega⟩
    · simp [lowDig, low, h1]
    · simp [low, h1]
  · by_cases h2 : 48 ≤ c.toNat ∧ c.toNat ≤ 57
    · right; right
      refine ⟨Lib.hid ⟨?_, ?_⟩, by omega, by omega⟩
      · simp [lowDig, digit, h2]
      · unfold low; exact decide_eq_false h1
    · left
      refine ⟨Lib.hid ⟨?_, ?_⟩, by omega⟩
      · unfold lowDig low digit; rw [decide_eq_false h1, decide_eq_false h2]; rfl
      · unfold low; exact decide_eq_false h1
theorem packOk_long {l : List UInt8} (h : 10 < l.length) : packOk l = false := by unfold packOk; rw [decide_eq_false (by omega)]; simp
theorem packOk_head {l : List UInt8} (h : 0 < l.length) (hc : low l[0] = false) : packOk l = false := by
  cases l with
  | nil => rfl
  | cons c r => simp at hc; simp [packOk, headLow, hc]
theorem packOk_bad {l : List UInt8} {k : Nat} (hk : k < l.length) (hc : lowDig l[k] = false) : packOk l = false := by
  unfold packOk
  have : l.all lowDig = false := by rw [List.all_eq_false]; exact ⟨l[k], List.getElem_mem hk, by simp [hc]⟩
  rw [this]; simp
theorem packOk_good {l : List UInt8} (h : 0 < l.length) (hc : low l[0] = true) (ha : l.all lowDig = true) (hl : l.length ≤ 10) : packOk l = true := by
  unfold packOk
  cases l with
  | nil => simp at h
  | cons c r => simp at hc; rw [ha, decide_eq_true hl]; simp [headLow, hc]
theorem all_takeP {p : UInt8 → Bool} {l : List UInt8} {k : Nat} (h : k < l.length) (ha : (l.take k).all p = true) (hd : p l[k] = true) : (l.take (k + 1)).all p = true := by
  rw [List.take_succ_eq_append_getElem h, List.all_append, ha]; simp [hd]
theorem needOk_pack {nm vr : List UInt8} {kd : Int} (h : packOk nm = false) : needOk nm kd vr = false := by unfold needOk; rw [h]; rfl
theorem needOk_any {nm vr : List UInt8} (h : packOk nm = true) : needOk nm 0 vr = vr.isEmpty := by unfold needOk; rw [h]; simp [inI]
theorem needOk_kind {nm vr : List UInt8} {kd : Int} (h : packOk nm = true) (h1 : 1 ≤ kd) (h3 : kd ≤ 3) : needOk nm kd vr = versionOk vr := by
  unfold needOk inI; rw [h, decide_eq_false (show ¬ kd = 0 by omega), decide_eq_true h1, decide_eq_true h3]; simp
theorem needOk_else {nm vr : List UInt8} {kd : Int} (h : kd < 0 ∨ 3 < kd) : needOk nm kd vr = false := by
  unfold needOk inI
  rw [decide_eq_false (show ¬ kd = 0 by omega)]
  rcases h with h | h
  · rw [decide_eq_false (show ¬ 1 ≤ kd by omega)]; simp
  · rw [decide_eq_false (show ¬ kd ≤ 3 by omega)]; simp
/-- where a need's kind may stand -/
theorem kinds (kd : Int) : kd = 0 ∨ (1 ≤ kd ∧ kd ≤ 3) ∨ (kd < 0 ∨ 3 < kd) := by omega
theorem packOk_len {l : List UInt8} (h : packOk l = true) : 1 ≤ l.length ∧ l.length ≤ 10 := by
  unfold packOk at h
  simp only [Bool.and_eq_true, decide_eq_true_eq] at h
  refine ⟨?_, h.2⟩
  cases l with
  | nil => simp [headLow] at h
  | cons => simp
theorem needOk_len {nm vr : List UInt8} {kd : Int} (h : needOk nm kd vr = true) : nm.length ≤ 10 ∧ vr.length ≤ 15 ∧ 0 ≤ kd ∧ kd ≤ 3 := by
  rcases boolOf (packOk nm) with hp | hp
  · rw [needOk_pack hp.out] at h; cases h
  · refine ⟨(packOk_len hp.out).2, ?_⟩
    rcases kinds kd with rfl | ⟨h1, h3⟩ | hk
    · rw [needOk_any hp.out] at h
      cases vr with
      | nil => simp
      | cons => cases h
    · rw [needOk_kind hp.out h1 h3] at h
      unfold versionOk at h
      cases hv : version vr with
      | none => rw [hv] at h; cases h
      | some ns => have := version_len hv; omega
    · rw [needOk_else hk] at h; cases h

end Go.Proofs.YtdcfifhmldolhaaDoor
