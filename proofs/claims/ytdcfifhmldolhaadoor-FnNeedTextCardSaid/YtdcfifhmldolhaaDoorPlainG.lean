/-
  Plain functions of needs that are read from texts. No program in sight.
-/
import Derived.Test.YtdcfifhmldolhaaDoorNeedF
import Derived.Test.YtdcfifhmldolhaaDoorIdx
namespace Go.Proofs.YtdcfifhmldolhaaDoor
open Go.RowKit

/-- name, kind and version of a text; none where the sign is none -/
def parts (l : List UInt8) : Option (List UInt8 × Int × List UInt8) := match signAt l with
  | none => some (l, 0, [])
  | some k => match l.drop k with
    | 62 :: 61 :: v => some (l.take k, 2, v)
    | 61 :: v => some (l.take k, 1, v)
    | 60 :: v => some (l.take k, 3, v)
    | _ => none
def needGet (l : List UInt8) : Option (List UInt8 × Int × List UInt8) := match parts l with
  | some (nm, kd, vr) => if needOk nm kd vr = true then some (nm, kd, vr) else none
  | none => none

theorem signAt_lt {l : List UInt8} {k : Nat} (h : signAt l = some k) : ∃ hk : k < l.length, isSign l[k] = true := by
  induction l generalizing k with
  | nil => cases h
  | cons c r ih =>
    simp only [signAt] at h
    cases hc : isSign c with
    | true =>
      rw [hc] at h
      cases h
      exact ⟨by simp, by simpa using hc⟩
    | false =>
      rw [hc] at h
      cases hs : signAt r with
      | none => rw [hs] at h; cases h
      | some m =>
        rw [hs] at h
        cases h
        obtain ⟨h1, h2⟩ := ih hs
        exact ⟨by simpa using h1, by simpa using h2⟩
theorem isSign_of {c : UInt8} (h : isSign c = true) : c = 61 ∨ c = 60 ∨ c = 62 := by
  unfold isSign at h
  simp only [Bool.or_eq_true, beq_iff_eq] at h
  rcases h with (h | h) | h
  · exact .inl h
  · exact .inr (.inl h)
  · exact .inr (.inr h)
/-- the forms that a text may have -/
theorem forms (l : List UInt8) : (signAt l = none ∧ parts l = some (l, 0, [])) ∨
    (∃ k nm v, signAt l = some k ∧ k = nm.length ∧ l = nm ++ 61 :: v ∧ parts l = some (nm, 1, v)) ∨
    (∃ k nm v, signAt l = some k ∧ k = nm.length ∧ l = nm ++ 60 :: v ∧ parts l = some (nm, 3, v)) ∨
    (∃ k nm v, signAt l = some k ∧ k = nm.length ∧ l = nm ++ 62 :: 61 :: v ∧ parts l = some (nm, 2, v)) ∨
    (∃ k nm v, signAt l = some k ∧ k = nm.length ∧ l = nm ++ 62 :: v ∧ (∀ u, v ≠ 61 :: u) ∧ parts l = none) := by
  cases hs : signAt l with
  | none => left; exact ⟨rfl, by unfold parts; rw [hs]⟩
  | some k =>
    right
    obtain ⟨hk, hc⟩ := signAt_lt hs
    have hd : l.drop k = l[k] :: l.drop (k + 1) := List.drop_eq_getElem_cons hk
    have hl : l = l.take k ++ l[k] :: l.drop (k + 1) := by rw [← hd, List.take_append_drop]
    have hlen : k = (l.take k).length := by simp; omega
    rcases isSign_of hc with h | h | h
    · rw [h] at hd hl
      exact .inl ⟨k, _, _, rfl, hlen, hl, by unfold parts; rw [hs]; simp only [hd]⟩
    · rw [h] at hd hl
      exact .inr (.inl ⟨k, _, _, rfl, hlen, hl, by unfold parts; rw [hs]; simp only [hd]⟩)
    · rw [h] at hd hl
      by_cases hv : ∃ u, l.drop (k + 1) = 61 :: u
      · obtain ⟨u, hu⟩ := hv
        rw [hu] at hd hl
        exact .inr (.inr (.inl ⟨k, _, u, rfl, hlen, hl, by unfold parts; rw [hs]; simp only [hd]⟩))
      · refine .inr (.inr (.inr ⟨k, _, _, rfl, hlen, hl, fun u e => hv ⟨u, e⟩, ?_⟩))
        unfold parts
        rw [hs]
        simp only [hd]
        cases hr : l.drop (k + 1) with
        | nil => rfl
        | cons a u =>
          have ha : a ≠ 61 := fun e => hv ⟨u, by rw [hr, e]⟩
          split
          · rename_i e
            injection e with _ e
            injection e with e _
            exact absurd e ha
          · rename_i e; injection e with e _; exact absurd e (by decide)
          · rename_i e; injection e with e _; exact absurd e (by decide)
          · rfl

end Go.Proofs.YtdcfifhmldolhaaDoor
