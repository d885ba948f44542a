/-
  The walk of the reference's PathMove.
-/
import Derived.Test.YtgccndhnpmmkfaaDoorPathF
namespace Go.Proofs.YtgccndhnpmmkfaaDoor
open Go.RowKit
set_option linter.unusedVariables false
attribute [local go_sem] mkB_size mkB_extract mkB_get mkB_append mkB_append_raw raw_append_mkB mkB_toList

theorem pathIn_parts {f s : List UInt8} (h : pathIn f s = true) : pathOk f = true ∧ pathOk s = true ∧ below f s = true := by
  unfold pathIn at h
  simp only [Bool.and_eq_true] at h
  exact ⟨h.1.1, h.1.2, h.2⟩
theorem below_len {f s : List UInt8} (h : below f s = true) : f.length ≤ s.length := by
  rcases below_iff.1 h with e | ⟨r, e⟩
  · rw [e]; exact Nat.le_refl _
  · rw [e]; simp

set_option maxHeartbeats 1000000 in
theorem specPathMove_any (s f t : List UInt8) (hs : s.length ≤ 1048576) (hf : f.length ≤ 1048576) (ht : t.length ≤ 1048576) (w : World) :
    Calls Tryd.prog 20 #[.string (mkB s), .string (mkB f), .string (mkB t)] w fun e w' => e = .returned (.string (mkB (pathMove s f t))) ∧ Below w.heap.size w w' := by
  rcases boolOf (pathIn f s) with h1 | h1
  · have hres : pathMove s f t = [] := by unfold pathMove; rw [h1.out]; rfl
    rw [hres]
    clear hres
    go_enter Tryd.func20, Tryd.ntmps20
    go_wp2_with fail
    refine (specPathIn_any _ _ (by omega) (by omega) _).mono ?_
    rintro e w1 ⟨rfl, hB1⟩
    rw [h1.out]
    go_wp2
    go_ret
    exact ⟨rfl, hB1⟩
  · have hfl := below_len (pathIn_parts h1.out).2.2
    rcases boolOf (pathOk t) with h2 | h2
    · have hres : pathMove s f t = [] := by unfold pathMove; rw [h1.out, h2.out]; rfl
      rw [hres]
      clear hres
      go_enter Tryd.func20, Tryd.ntmps20
      go_wp2_with fail
      refine (specPathIn_any _ _ (by omega) (by omega) _).mono ?_
      rintro e w1 ⟨rfl, hB1⟩
      rw [h1.out]
      go_wp2_with fail
      refine (l1Path_any _ (by omega) _).mono ?_
      rintro e w2 ⟨rfl, hB2⟩
      rw [h2.out]
      go_wp2
      go_ret
      exact ⟨rfl, hB1.trans (hB2.mono hB1.size)⟩
    · have hmm : (t ++ s.drop f.length).length ≤ 1099511627776 := by simp; omega
      have htk : (s.drop f.length).take (s.length - f.length) = s.drop f.length := List.take_of_length_le (by simp)
      rcases boolOf (pathOk (t ++ s.drop f.length)) with h3 | h3
      · have hres : pathMove s f t = [] := by unfold pathMove; rw [h1.out, h2.out, h3.out]; rfl
        rw [hres]
        clear hres
        go_enter Tryd.func20, Tryd.ntmps20
        go_wp2_with fail
        refine (specPathIn_any _ _ (by omega) (by omega) _).mono ?_
        rintro e w1 ⟨rfl, hB1⟩
        rw [h1.out]
        go_wp2_with fail
        refine (l1Path_any _ (by omega) _).mono ?_
        rintro e w2 ⟨rfl, hB2⟩
        rw [h2.out]
        go_wp2_with fail
        refine (l1Path_any _ hmm _).mono ?_
        rintro e w3 ⟨rfl, hB3⟩
        rw [h3.out]
        go_wp2
        go_ret
        exact ⟨rfl, (hB1.trans (hB2.mono hB1.size)).trans (hB3.mono (Nat.le_trans hB1.size hB2.size))⟩
      · have hres : pathMove s f t = t ++ s.drop f.length := by unfold pathMove; rw [h1.out, h2.out, h3.out]; rfl
        rw [hres]
        clear hres
        go_enter Tryd.func20, Tryd.ntmps20
        go_wp2_with fail
        refine (specPathIn_any _ _ (by omega) (by omega) _).mono ?_
        rintro e w1 ⟨rfl, hB1⟩
        rw [h1.out]
        go_wp2_with fail
        refine (l1Path_any _ (by omega) _).mono ?_
        rintro e w2 ⟨rfl, hB2⟩
        rw [h2.out]
        go_wp2_with fail
        refine (l1Path_any _ hmm _).mono ?_
        rintro e w3 ⟨rfl, hB3⟩
        rw [h3.out]
        go_wp2
        go_ret
        exact ⟨rfl, (hB1.trans (hB2.mono hB1.size)).trans (hB3.mono (Nat.le_trans hB1.size hB2.size))⟩
end Go.Proofs.YtgccndhnpmmkfaaDoor
