/-
  The walks of the program's PathIn, PathUp, PathLast, PathMove, of the reference's, and of what they call.
-/
import Derived.Test.YtiibodelcfmnpaaDoorPathR
import Derived.Test.YtiibodelcfmnpaaDoorHasP
import Derived.Lib.SmallJoins
namespace Go.Proofs.YtiibodelcfmnpaaDoor
open Go.RowKit
set_option linter.unusedVariables false
attribute [local go_sem] mkB_size mkB_extract mkB_get mkB_append mkB_append_raw raw_append_mkB mkB_toList

theorem mem_drop_step {b : UInt8} {l : List UInt8} {j : Nat} (hj : j < l.length) (h : b ∉ l.drop (j + 1)) (hne : ¬ l[j] = b) : b ∉ l.drop j := by
  rw [List.drop_eq_getElem_cons hj]
  intro hm
  rcases List.mem_cons.1 hm with e | e
  · exact hne e.symm
  · exact h e
theorem split_here {b : UInt8} {l : List UInt8} {j : Nat} (hj : j < l.length) (h : b ∉ l.drop (j + 1)) (he : l[j] = b) : ∃ c, b ∉ c ∧ l = l.take j ++ b :: c :=
  ⟨l.drop (j + 1), h, by rw [← he]; exact (List.take_append_drop j l).symm.trans (by rw [List.drop_eq_getElem_cons hj])⟩

/-- the place of the last b: -1 if there is none -/
def lastIx (b : UInt8) (l : List UInt8) : Int := if b ∈ l then (l.length : Int) - 1 - ((l.reverse.takeWhile (· != b)).length : Int) else -1
theorem lastIx_none {b : UInt8} {l : List UInt8} (h : b ∉ l) : lastIx b l = -1 := if_neg h
theorem lastIx_at {b : UInt8} {a c : List UInt8} (h : b ∉ c) : lastIx b (a ++ b :: c) = a.length := by
  unfold lastIx
  rw [if_pos (by simp), List.reverse_append, List.reverse_cons, List.append_assoc, takeWhile_app _ _ (fun x hx => by
    simp only [bne_iff_ne]; rintro rfl; exact h (by simpa using hx))]
  simp
  omega

set_option maxHeartbeats 1000000 in
theorem LastIndexByteString_any (l : List UInt8) (b : UInt8) (hl : l.length ≤ 9223372036854775807) (w : World) :
    Calls Tryd.prog 43 #[.string (mkB l), .int .u8 (b.toNat : Int)] w fun e w' => e = .returned (.int .i64 (lastIx b l)) ∧ w = w' := by
  go_enter Tryd.func43, Tryd.ntmps43
  go_wp2
  go_loop [5] (fun i => (∃ j : Nat, j < l.length ∧ i = .int .i64 j ∧ Hid (b ∉ l.drop (j + 1))) ∨ (i = .int .i64 (-1) ∧ Hid (b ∉ l))) (fun i => (intOf i + 1).toNat)
  case atStart =>
    cases l with
    | nil => exact .inr ⟨int_eq (by simp), Lib.hid (by simp)⟩
    | cons c l => exact .inl ⟨l.length, by simp, int_eq (by simp), Lib.hid (by simp)⟩
  case round =>
    rcases hrel with ⟨j, hj, rfl, hno⟩ | ⟨rfl, hno⟩
    · by_cases hb : l[j] = b
      · have hb' := u8_is hb
        have hb := Lib.hid hb
        go_wp2
        go_ret
        obtain ⟨c, hc, hs⟩ := split_here hj hno.out hb.out
        refine ⟨ret_int ?_, rfl⟩
        rw [hs, lastIx_at hc]; simp; omega
      · have hb' := u8_ne hb
        have hb := Lib.hid hb
        go_wp2
        go_round
        case rel =>
          have hn := mem_drop_step hj hno.out hb.out
          cases j with
          | zero => exact .inr ⟨int_eq (by simp), Lib.hid (by simpa using hn)⟩
          | succ j => exact .inl ⟨j, by omega, int_eq (by simp), Lib.hid hn⟩
        case measure => first | (simp [intOf]; done) | (simp [intOf]; omega)
    · go_wp2
      go_ret
      exact ⟨ret_int (lastIx_none hno.out).symm, rfl⟩
theorem LastIndexByte_any (l : List UInt8) (b : UInt8) (hl : l.length ≤ 9223372036854775807) (w : World) :
    Calls Tryd.prog 27 #[.string (mkB l), .int .u8 (b.toNat : Int)] w fun e w' => e = .returned (.int .i64 (lastIx b l)) ∧ w = w' := by
  go_enter Tryd.func27, Tryd.ntmps27
  go_wp2_with (go_at_call 43; refine (LastIndexByteString_any _ _ hl _).mono ?_; rintro e w' ⟨rfl, rfl⟩)
  go_ret
  exact ⟨rfl, rfl⟩

set_option maxHeartbeats 1000000 in
theorem PathUp_any (s : List UInt8) (hs : s.length ≤ 140737488355327) (w : World) :
    Calls Tryd.prog 14 #[.string (mkB s)] w fun e w' => e = .returned (.string (mkB (pathUp s))) ∧ Below w.heap.size w w' := by
  have hsm : (mkB s).size ≤ 140737488355328 := by rw [mkB_size]; omega
  rcases boolOf (pathOk s) with h1 | h1
  · go_enter Tryd.func14, Tryd.ntmps14
    go_wp2_with fail
    refine (PathOk_any _ hsm _).mono ?_
    rintro e w1 ⟨rfl, hB1⟩
    rw [mkB_data, h1.out]
    go_wp2
    go_ret
    refine ⟨ret_str ?_, hB1⟩
    unfold pathUp; rw [h1.out]; rfl
  · have hres : pathUp s = upL s := by unfold pathUp; rw [h1.out]; rfl
    rw [hres]
    clear hres
    rcases split_last 47 s with hno | ⟨a, c, hc, rfl⟩
    · rw [upL_none hno]
      go_enter Tryd.func14, Tryd.ntmps14
      go_wp2_with fail
      refine (PathOk_any _ hsm _).mono ?_
      rintro e w1 ⟨rfl, hB1⟩
      rw [mkB_data, h1.out]
      go_wp2_with fail
      refine (LastIndexByte_any _ 47 (by omega) _).mono ?_
      rintro e w2 ⟨rfl, rfl⟩
      rw [lastIx_none hno]
      go_wp2
      go_ret
      exact ⟨ret_str rfl, hB1⟩
    · have hal : a.length + 1 ≤ 140737488355327 := by simp at hs; omega
      rw [upL_at hc]
      go_enter Tryd.func14, Tryd.ntmps14
      go_wp2_with fail
      refine (PathOk_any _ hsm _).mono ?_
      rintro e w1 ⟨rfl, hB1⟩
      rw [mkB_data, h1.out]
      go_wp2_with fail
      refine (LastIndexByte_any _ 47 (by omega) _).mono ?_
      rintro e w2 ⟨rfl, rfl⟩
      rw [lastIx_at hc]
      go_wp2
      go_ret
      exact ⟨rfl, hB1⟩

set_option maxHeartbeats 1000000 in
theorem PathLast_any (s : List UInt8) (hs : s.length ≤ 140737488355327) (w : World) :
    Calls Tryd.prog 16 #[.string (mkB s)] w fun e w' => e = .returned (.string (mkB (pathLast s))) ∧ Below w.heap.size w w' := by
  have hsm : (mkB s).size ≤ 140737488355328 := by rw [mkB_size]; omega
  rcases boolOf (pathOk s) with h1 | h1
  · go_enter Tryd.func16, Tryd.ntmps16
    go_wp2_with fail
    refine (PathOk_any _ hsm _).mono ?_
    rintro e w1 ⟨rfl, hB1⟩
    rw [mkB_data, h1.out]
    go_wp2
    go_ret
    refine ⟨ret_str ?_, hB1⟩
    unfold pathLast; rw [h1.out]; rfl
  · have hres : pathLast s = lastL s := by unfold pathLast; rw [h1.out]; rfl
    rw [hres]
    clear hres
    rcases split_last 47 s with hno | ⟨a, c, hc, rfl⟩
    · rw [lastL_none hno]
      go_enter Tryd.func16, Tryd.ntmps16
      go_wp2_with fail
      refine (PathOk_any _ hsm _).mono ?_
      rintro e w1 ⟨rfl, hB1⟩
      rw [mkB_data, h1.out]
      go_wp2_with fail
      refine (LastIndexByte_any _ 47 (by omega) _).mono ?_
      rintro e w2 ⟨rfl, rfl⟩
      rw [lastIx_none hno]
      go_wp2
      go_ret
      refine ⟨ret_str (congrArg mkB ?_), hB1⟩
      simp
    · have hal : a.length + c.length + 1 ≤ 140737488355327 := by simp at hs; omega
      rw [lastL_at hc]
      go_enter Tryd.func16, Tryd.ntmps16
      go_wp2_with fail
      refine (PathOk_any _ hsm _).mono ?_
      rintro e w1 ⟨rfl, hB1⟩
      rw [mkB_data, h1.out]
      go_wp2_with fail
      refine (LastIndexByte_any _ 47 (by omega) _).mono ?_
      rintro e w2 ⟨rfl, rfl⟩
      rw [lastIx_at hc]
      go_wp2
      go_ret
      exact ⟨ret_str (congrArg mkB (List.take_of_length_le (by omega))), hB1⟩

/-! ### the reference -/
theorem below_long {p s : List UInt8} (h : p.length < s.length) : below p s = (s.take p.length == p && s[p.length] == 47) := by
  rw [Bool.eq_iff_iff, below_iff]
  simp only [Bool.and_eq_true, beq_iff_eq]
  constructor
  · rintro (e | ⟨r, e⟩)
    · subst e; omega
    · subst e; simp
  · rintro ⟨e1, e2⟩
    refine .inr ⟨s.drop (p.length + 1), ?_⟩
    have e3 := List.take_append_drop p.length s
    rw [List.drop_eq_getElem_cons h, e1, e2] at e3
    exact e3.symm
theorem below_short {p s : List UInt8} (h : s.length ≤ p.length) (hne : ¬ s = p) : below p s = false := by
  rw [Bool.eq_false_iff]; intro e
  rcases below_iff.1 e with e | ⟨r, e⟩
  · exact hne e
  · rw [e] at h; simp at h; omega

end Go.Proofs.YtiibodelcfmnpaaDoor
