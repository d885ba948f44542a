/-
  The plain laws of paths: what moving, going up, and lying below come to. No program in sight.
-/
import Derived.Test.YtgccndhnpmmkfaaDoorPlain
namespace Go.Proofs.YtgccndhnpmmkfaaDoor

theorem up_slash {l : List UInt8} (h : (47 : UInt8) ∈ l) : l = upL l ++ 47 :: lastL l ∧ (47 : UInt8) ∉ lastL l := by
  rcases split_last 47 l with h' | ⟨a, c, hc, rfl⟩
  · exact absurd h h'
  · rw [upL_at hc, lastL_at hc]; exact ⟨rfl, hc⟩
theorem pathOk_nil : pathOk [] = false := by decide
theorem pathOk_up {l : List UInt8} (h : pathOk l = true) (hs : (47 : UInt8) ∈ l) : pathOk (upL l) = true := by
  unfold pathOk at h ⊢
  rw [cut_up l hs] at h
  simp only [List.all_append, List.length_append, Bool.and_eq_true, decide_eq_true_eq] at h ⊢
  exact ⟨h.1.1, by have := h.2; simp at this; omega⟩
theorem below_up {l : List UInt8} (hs : (47 : UInt8) ∈ l) : below (upL l) l = true := below_iff.2 (.inr ⟨lastL l, (up_slash hs).1⟩)
theorem up_ne {l : List UInt8} (h : pathOk l = true) (hs : (47 : UInt8) ∈ l) : upL l ≠ [] := by
  intro e
  have := pathOk_up h hs
  rw [e, pathOk_nil] at this; cases this
theorem up_len {l : List UInt8} (hs : (47 : UInt8) ∈ l) : (upL l).length < l.length := by
  have h := congrArg List.length (up_slash hs).1
  simp at h; omega
theorem below_len' {f s : List UInt8} (h : below f s = true) : f.length ≤ s.length := by
  rcases below_iff.1 h with e | ⟨r, e⟩
  · rw [e]; exact Nat.le_refl _
  · rw [e]; simp
theorem pathIn_short {p s : List UInt8} (h : s.length < p.length) : pathIn p s = false := by
  unfold pathIn
  have : below p s = false := by
    rw [Bool.eq_false_iff]; intro e
    have := below_len' e; omega
  rw [this]; simp
theorem pathIn_mk {p s : List UInt8} (h1 : pathOk p = true) (h2 : pathOk s = true) (h3 : below p s = true) : pathIn p s = true := by
  unfold pathIn; rw [h1, h2, h3]; rfl
theorem pathIn_of {p s : List UInt8} (h : pathIn p s = true) : pathOk p = true ∧ pathOk s = true ∧ below p s = true := by
  unfold pathIn at h
  simp only [Bool.and_eq_true] at h
  exact ⟨h.1.1, h.1.2, h.2⟩

/-! ### P3 -/
theorem move_of {s f t : List UInt8} (h : pathMove s f t ≠ []) : pathIn f s = true ∧ pathOk t = true ∧ pathOk (t ++ s.drop f.length) = true ∧ pathMove s f t = t ++ s.drop f.length := by
  unfold pathMove at h ⊢
  split at h
  · rename_i hc
    rw [if_pos hc]
    simp only [Bool.and_eq_true] at hc
    exact ⟨hc.1.1, hc.1.2, hc.2, rfl⟩
  · exact absurd rfl h
theorem moved {s f t : List UInt8} (h : pathMove s f t ≠ []) :
    pathOk (pathMove s f t) = true ∧ pathIn t (pathMove s f t) = true ∧ pathMove (pathMove s f t) t f = s ∧ pathMove s f f = s := by
  obtain ⟨hin, ht, hx, e⟩ := move_of h
  obtain ⟨hf, hs, hb⟩ := pathIn_of hin
  have hback : f ++ s.drop f.length = s := by
    rcases below_iff.1 hb with e | ⟨r, e⟩
    · rw [e]; simp
    · rw [e]; simp
  have hbt : below t (t ++ s.drop f.length) = true := by
    rcases below_iff.1 hb with e | ⟨r, e⟩
    · rw [e]; simp; exact below_refl _
    · rw [e]; simp; exact below_iff.2 (.inr ⟨r, rfl⟩)
  have hin2 : pathIn t (t ++ s.drop f.length) = true := pathIn_mk ht hx hbt
  rw [e]
  refine ⟨hx, hin2, ?_, ?_⟩
  · unfold pathMove
    have hd : (t ++ s.drop f.length).drop t.length = s.drop f.length := by simp
    rw [hd, hback, hin2, hf, hs]; rfl
  · unfold pathMove
    rw [hback, hin, hf, hs]; rfl

/-! ### P1, P2, P85 -/
theorem in_up {p s : List UInt8} (h : pathIn p s = true) (hne : p ≠ s) : pathUp s = upL s ∧ pathIn p (upL s) = true ∧ pathIn s p = false := by
  obtain ⟨hp, hs, hb⟩ := pathIn_of h
  rcases below_iff.1 hb with e | ⟨r, rfl⟩
  · exact absurd e.symm hne
  · have hm : (47 : UInt8) ∈ p ++ 47 :: r := by simp
    refine ⟨by unfold pathUp; rw [hs]; rfl, pathIn_mk hp (pathOk_up hs hm) ?_, pathIn_short (by simp)⟩
    rcases split_last 47 r with hr | ⟨a, c, hc, rfl⟩
    · rw [upL_at hr]; exact below_refl _
    · rw [show p ++ 47 :: (a ++ 47 :: c) = (p ++ 47 :: a) ++ 47 :: c by simp, upL_at hc]
      exact below_iff.2 (.inr ⟨a, rfl⟩)
theorem up_in {p s : List UInt8} (h : pathIn p s = true) : pathUp p = [] ∨ pathIn (pathUp p) s = true := by
  obtain ⟨hp, hs, hb⟩ := pathIn_of h
  unfold pathUp
  rw [hp]
  by_cases hm : (47 : UInt8) ∈ p
  · right; exact pathIn_mk (pathOk_up hp hm) hs (below_trans (below_up hm) hb)
  · left; exact upL_none hm
theorem path_parts {s : List UInt8} (h : pathOk s = true) :
    (pathUp s = [] ∧ pathLast s = s ∧ pathIn s s = true) ∨
    (pathUp s ≠ [] ∧ pathUp s ++ 47 :: pathLast s = s ∧ pathOk (pathUp s) = true ∧ pathIn (pathUp s) s = true ∧ pathIn s (pathUp s) = false) := by
  unfold pathUp pathLast
  rw [h]
  by_cases hm : (47 : UInt8) ∈ s
  · right
    exact ⟨up_ne h hm, (up_slash hm).1.symm, pathOk_up h hm, pathIn_mk (pathOk_up h hm) h (below_up hm), pathIn_short (up_len hm)⟩
  · left
    exact ⟨upL_none hm, lastL_none hm, pathIn_mk h h (below_refl _)⟩
theorem up_step {x s : List UInt8} {k : Nat} (hx : pathIn x s = true) (hk : x.count 47 = k + 1) : pathIn (pathUp x) s = true ∧ (pathUp x).count 47 = k := by
  obtain ⟨h1, h2, h3⟩ := pathIn_of hx
  have hm : (47 : UInt8) ∈ x := List.count_pos_iff.1 (by omega)
  have he := up_slash hm
  unfold pathUp
  rw [h1]
  refine ⟨pathIn_mk (pathOk_up h1 hm) h2 (below_trans (below_up hm) h3), ?_⟩
  have hc := congrArg (List.count 47) he.1
  rw [List.count_append, List.count_cons_self, List.count_eq_zero_of_not_mem he.2] at hc
  show (upL x).count 47 = k
  omega
theorem up_end {x : List UInt8} (hx : pathOk x = true) (hk : x.count 47 = 0) : pathUp x = [] ∧ pathLast x = x := by
  have hm : (47 : UInt8) ∉ x := List.count_eq_zero.1 hk
  unfold pathUp pathLast
  rw [hx]
  exact ⟨upL_none hm, lastL_none hm⟩
theorem count_lt {s : List UInt8} (h : pathOk s = true) : s.count 47 < 5 := by
  unfold pathOk at h
  simp only [Bool.and_eq_true, decide_eq_true_eq] at h
  have := cut_length 47 s
  omega

end Go.Proofs.YtgccndhnpmmkfaaDoor
