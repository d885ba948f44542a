/-
  Reading a need is the inverse of writing one. No program in sight.
-/
import Derived.Test.YtdcfifhmldolhaaDoorPlainG
namespace Go.Proofs.YtdcfifhmldolhaaDoor
open Go.RowKit

theorem lowDig_noSign {c : UInt8} (h : lowDig c = true) : isSign c = false := by
  cases hs : isSign c with
  | false => rfl
  | true => rcases isSign_of hs with rfl | rfl | rfl <;> exact absurd h (by decide)
theorem signAt_pass {nm r : List UInt8} (h : ∀ c ∈ nm, isSign c = false) : signAt (nm ++ r) = (signAt r).map (· + nm.length) := by
  induction nm with
  | nil => simp
  | cons c t ih =>
    have hc := h c (by simp)
    have ht := ih (fun d hd => h d (by simp [hd]))
    simp only [List.cons_append, signAt, hc, ht]
    cases signAt r with
    | none => rfl
    | some k => simp [Nat.add_assoc]
theorem needOk_parts {nm vr : List UInt8} {kd : Int} (h : needOk nm kd vr = true) : (∀ c ∈ nm, isSign c = false) ∧ ((kd = 0 ∧ vr = []) ∨ kd = 1 ∨ kd = 2 ∨ kd = 3) := by
  unfold needOk packOk inI at h
  simp only [Bool.and_eq_true, Bool.or_eq_true, decide_eq_true_eq, List.all_eq_true, List.isEmpty_iff] at h
  refine ⟨fun c hc => lowDig_noSign (h.1.1.2 c hc), ?_⟩
  rcases h.2 with h2 | h2
  · exact .inl h2
  · omega
theorem needGet_text {nm vr : List UInt8} {kd : Int} (h : needOk nm kd vr = true) : needGet (needText nm kd vr) = some (nm, kd, vr) := by
  obtain ⟨hn, hk⟩ := needOk_parts h
  have key : parts (needText nm kd vr) = some (nm, kd, vr) := by
    unfold parts needText
    rcases hk with ⟨rfl, rfl⟩ | rfl | rfl | rfl
    · rw [signAt_pass hn]; simp [sign, signAt]
    · rw [signAt_pass hn]; simp [sign, signAt, isSign]
    · rw [signAt_pass hn]; simp [sign, signAt, isSign]
    · rw [signAt_pass hn]; simp [sign, signAt, isSign]
  unfold needGet
  rw [key]
  simp [h]
theorem needGet_back {l a v : List UInt8} {k : Int} (h : needGet l = some (a, k, v)) : needOk a k v = true ∧ needText a k v = l := by
  have key : ∀ {nm vr kd}, parts l = some (nm, kd, vr) → needText nm kd vr = l → needOk a k v = true ∧ needText a k v = l := by
    intro nm vr kd hp ht
    unfold needGet at h
    rw [hp] at h
    by_cases ho : needOk nm kd vr = true
    · simp [ho] at h
      obtain ⟨rfl, rfl, rfl⟩ := h
      exact ⟨ho, ht⟩
    · simp [ho] at h
  rcases forms l with ⟨hs, hp⟩ | ⟨k', nm, v', hs, rfl, rfl, hp⟩ | ⟨k', nm, v', hs, rfl, rfl, hp⟩ | ⟨k', nm, v', hs, rfl, rfl, hp⟩ | ⟨k', nm, v', hs, rfl, rfl, hne, hp⟩
  · exact key hp (by simp [needText, sign])
  · exact key hp (by simp [needText, sign])
  · exact key hp (by simp [needText, sign])
  · exact key hp (by simp [needText, sign])
  · unfold needGet at h; rw [hp] at h; cases h
theorem needGet_nil : needGet [] = none := by decide
theorem needText_ne {nm vr : List UInt8} {kd : Int} (h : needOk nm kd vr = true) : (needText nm kd vr == []) = false := by
  rw [beq_eq_false_iff_ne]
  intro e
  have := needGet_text h
  rw [e, needGet_nil] at this
  cases this
end Go.Proofs.YtdcfifhmldolhaaDoor
