/-
  The law FnPathUps, walked: the depth of a path is its number of slashes.
-/
import Derived.Outline
import Derived.Test.YtgccndhnpmmkfaaDoorPathG
import Derived.Test.YtgccndhnpmmkfaaDoorDrawP
import Derived.Test.YtgccndhnpmmkfaaDoorPlainP
namespace Go.Proofs.YtgccndhnpmmkfaaDoor
open Go.RowKit
set_option linter.unusedVariables false
attribute [local go_sem] mkB_size mkB_extract mkB_get mkB_append mkB_append_raw raw_append_mkB mkB_toList

theorem count_snoc {l : List UInt8} {k : Nat} (h : k < l.length) : (l.take (k + 1)).count 47 = (l.take k).count 47 + (if l[k] = 47 then 1 else 0) := by
  rw [List.take_succ_eq_append_getElem h, List.count_append]
  congr 1
  by_cases hb : l[k] = 47
  · rw [if_pos hb, hb]; rfl
  · rw [if_neg hb]; exact List.count_eq_zero_of_not_mem (by simpa using fun e => hb e.symm)

set_option maxHeartbeats 2000000 in
set_option maxRecDepth 100000 in
theorem law_FnPathUps (A0 : Option Addr) (n0 c0 : Nat) (w : World) (h0 : IsBytes w A0 n0 c0) :
    Calls Tryd.prog 10 #[.slice A0 n0 c0] w fun e w' => e = .returned (.bool true) ∧ Below w.heap.size w w' := by
  by_cases hn : n0 ≤ 1048576
  · go_enter Tryd.func10, Tryd.ntmps10
    go_wp2_with fail
    refine (DrawPathUp_any A0 n0 c0 w h0).mono ?_
    rintro e w1 ⟨s, hs, rfl, hB⟩
    replace hs := drawn_short _ hs
    have hsz : (mkB s).size ≤ 140737488355328 := by rw [mkB_size]; omega
    rcases boolOf (pathOk s) with hok | hok
    · go_wp2_with fail
      refine (PathOk_any (mkB s) hsz _).mono ?_
      rintro e w2 ⟨rfl, hB'⟩
      replace hB := hB.trans (hB'.mono hB.size)
      clear hB'
      rw [mkB_data, hok.out]
      go_wp2_with fail
      refine (specPathOk_any s (by omega) _).mono ?_
      rintro e w3 ⟨rfl, hB'⟩
      replace hB := hB.trans (hB'.mono hB.size)
      clear hB'
      rw [hok.out]
      go_wp2_with fail
      refine (specPathOk_any s (by omega) _).mono ?_
      rintro e w4 ⟨rfl, hB'⟩
      replace hB := hB.trans (hB'.mono hB.size)
      clear hB'
      rw [hok.out]
      go_wp2
      go_ret
      exact ⟨rfl, hB⟩
    · go_wp2_with fail
      refine (PathOk_any (mkB s) hsz _).mono ?_
      rintro e w2 ⟨rfl, hB'⟩
      replace hB := hB.trans (hB'.mono hB.size)
      clear hB'
      rw [mkB_data, hok.out]
      go_wp2_with fail
      refine (specPathOk_any s (by omega) _).mono ?_
      rintro e w3 ⟨rfl, hB'⟩
      replace hB := hB.trans (hB'.mono hB.size)
      clear hB'
      rw [hok.out]
      go_wp2
      go_loop [5, 6] (fun n i => ∃ k m : Nat, k ≤ s.length ∧ m ≤ k ∧ i = .int .i64 k ∧ n = .int .i64 m ∧ Hid ((s.take k).count 47 = m)) (fun _ i => s.length - (intOf i).toNat)
      case atStart => exact ⟨0, 0, Nat.zero_le _, Nat.le_refl _, rfl, rfl, Lib.hid rfl⟩
      case round =>
        obtain ⟨k, m, hk, hm, rfl, rfl, hc⟩ := hrel
        by_cases hlt : k < s.length
        · have hsn := count_snoc hlt
          by_cases hb : s[k] = 47
          · have hb' : ((s[k].toNat : Int) == 47) = true := u8_is hb
            rw [if_pos hb, hc.out] at hsn
            replace hsn := Lib.hid hsn
            have hb := Lib.hid hb
            go_wp2
            go_round
            case rel => exact ⟨k + 1, m + 1, by omega, by omega, by go_num, by go_num, hsn⟩
            case measure => simp [intOf]; omega
          · have hb' : ((s[k].toNat : Int) == 47) = false := u8_ne hb
            rw [if_neg hb, hc.out] at hsn
            replace hsn := Lib.hid hsn
            have hb := Lib.hid hb
            go_wp2
            go_round
            case rel => exact ⟨k + 1, m, by omega, by omega, by go_num, rfl, hsn⟩
            case measure => simp [intOf]; omega
        · have hcnt : s.count 47 = m := by
            have h := hc.out
            rwa [List.take_of_length_le (by omega)] at h
          have hm5 : m < 5 := by have := count_lt hok.out; omega
          replace hcnt := Lib.hid hcnt
          clear hc
          go_wp2
          go_loopw [7, 8] (fun x i wr => ∃ (k : Nat) (y : List UInt8), k ≤ m ∧ i = .int .i64 k ∧ x = .string (mkB y) ∧ Hid (pathIn y s = true) ∧ Hid (y.count 47 + k = m) ∧ y.length ≤ 20 ∧ Below w.heap.size w wr) (fun _ i _ => m - (intOf i).toNat)
          case atStart => exact ⟨0, s, Nat.zero_le _, rfl, rfl, Lib.hid (pathIn_mk hok.out hok.out (below_refl _)), Lib.hid hcnt.out, hs, hB⟩
          case round =>
            clear hB
            obtain ⟨k, y, hk, rfl, rfl, hin, hyc, hyl, hB⟩ := hrel
            by_cases hlt2 : k < m
            · obtain ⟨j1, j2⟩ := up_step (k := m - k - 1) hin.out (by have := hyc.out; omega)
              have hul : (pathUp y).length ≤ 20 := by have := below_len' (pathIn_of j1).2.2; omega
              replace j1 := Lib.hid j1
              replace j2 := Lib.hid j2
              go_wp2_with fail
              refine (PathUp_any y (by omega) _).mono ?_
              rintro e w4 ⟨rfl, hB'⟩
              replace hB := hB.trans (hB'.mono hB.size)
              clear hB'
              go_wp2_with fail
              refine (PathIn_any (pathUp y) s (by omega) (by omega) _).mono ?_
              rintro e w5 ⟨rfl, hB'⟩
              replace hB := hB.trans (hB'.mono hB.size)
              clear hB'
              rw [j1.out]
              go_wp2
              go_roundw
              case rel => exact ⟨k + 1, pathUp y, by omega, by go_num, rfl, j1, Lib.hid (by have := j2.out; omega), hul, hB⟩
              case measure => simp [intOf]; omega
            · obtain ⟨e1, e2⟩ := up_end (pathIn_of hin.out).1 (by have := hyc.out; omega)
              replace e1 := Lib.hid e1
              replace e2 := Lib.hid e2
              go_wp2_with fail
              refine (PathUp_any y (by omega) _).mono ?_
              rintro e w4 ⟨rfl, hB'⟩
              replace hB := hB.trans (hB'.mono hB.size)
              clear hB'
              rw [e1.out]
              go_wp2_with fail
              refine (PathLast_any y (by omega) _).mono ?_
              rintro e w5 ⟨rfl, hB'⟩
              replace hB := hB.trans (hB'.mono hB.size)
              clear hB'
              rw [e2.out]
              go_wp2
              go_ret
              exact ⟨ret_bool (decide_eq_true (by omega)), hB⟩
  · obtain ⟨g1, g2, _⟩ := h0
    unfold maxLen at g2
    go_enter Tryd.func10, Tryd.ntmps10
    go_wp2
    go_ret
    exact ⟨rfl, Below.refl _ _⟩
end Go.Proofs.YtgccndhnpmmkfaaDoor
