/-
  The walks of the reference's l2Text, l2Entry, l2At, l2Dir.
-/
import Derived.Test.YtjihpbioofikcaaDoorTreeE
import Derived.Test.YtjihpbioofikcaaDoorSearch
namespace Go.Proofs.YtjihpbioofikcaaDoor
open Go.RowKit
set_option linter.unusedVariables false
attribute [local go_sem] mkB_size mkB_extract mkB_get mkB_append mkB_append_raw raw_append_mkB mkB_toList

theorem inI_seen (c : UInt8) : inI (c.toNat : Int) 32 126 = seen c := by
  unfold inI seen; rw [Bool.eq_iff_iff]; simp only [Bool.and_eq_true, decide_eq_true_eq]; omega
theorem fileTextOk_all {l : List UInt8} (h : l.all fileByte = true) : fileTextOk l = decide (l.length ≤ 80) := by unfold fileTextOk; rw [h]; simp
theorem fileTextOk_bad {l : List UInt8} (h : l.all fileByte = false) : fileTextOk l = false := by unfold fileTextOk; rw [h]; simp

set_option maxHeartbeats 2000000 in
theorem l2Text_any (l : List UInt8) (hl : l.length ≤ 9223372036854775807) (w : World) :
    Calls Tryd.prog 111 #[.string (mkB l)] w fun e w' => e = .returned (.bool (fileTextOk l)) ∧ w = w' := by
  go_enter Tryd.func111, Tryd.ntmps111
  go_wp2
  go_loop [3] (fun i => ∃ k : Nat, k ≤ l.length ∧ i = .int .i64 k ∧ Hid ((l.take k).all fileByte = true)) (fun i => l.length - (intOf i).toNat)
  case atStart => exact ⟨0, Nat.zero_le _, rfl, Lib.hid (by simp)⟩
  case round =>
    obtain ⟨k, hk, rfl, hall⟩ := hrel
    by_cases hlt : k < l.length
    · by_cases h10 : l[k] = 10
      · have h10' : ((l[k].toNat : Int) != 10) = false := by rw [h10]; rfl
        have hf := Lib.hid (fileByte_line h10)
        replace h10 := Lib.hid h10
        go_wp2
        go_round
        case rel => exact ⟨k + 1, by omega, by go_num, Lib.hid (tk_ok hlt hall.out hf.out)⟩
        case measure => simp [intOf]; omega
      · have hcb : (l[k].toNat : Int) ≤ 255 := by have := l[k].toNat_lt; omega
        have h10' : ((l[k].toNat : Int) != 10) = true := by
          have := u8_ne (b := 10) h10
          rw [bne]; rw [show ((10 : UInt8).toNat : Int) = 10 from rfl] at this; rw [this]; rfl
        rcases boolOf (seen l[k]) with hb | hb
        · have hf := Lib.hid (fileByte_no hb.out h10)
          replace h10 := Lib.hid h10
          go_wp2_with (go_at_call 110; refine (l1In_any _ _ _ _).mono ?_; rintro e w' ⟨rfl, rfl⟩; rw [inI_seen, hb.out])
          go_ret
          exact ⟨ret_bool (by rw [fileTextOk_bad (tk_no hlt hf.out)]), rfl⟩
        · have hf := Lib.hid (fileByte_seen hb.out)
          replace h10 := Lib.hid h10
          go_wp2_with (go_at_call 110; refine (l1In_any _ _ _ _).mono ?_; rintro e w' ⟨rfl, rfl⟩; rw [inI_seen, hb.out])
          go_round
          case rel => exact ⟨k + 1, by omega, by go_num, Lib.hid (tk_ok hlt hall.out hf.out)⟩
          case measure => simp [intOf]; omega
    · go_wp2
      go_ret
      exact ⟨ret_bool (by rw [fileTextOk_all (tk_end (by omega) hall.out), Bool.eq_iff_iff]; first | (simp; done) | (simp; omega)), rfl⟩

set_option maxHeartbeats 4000000 in
theorem l2Entry_any (e : En) (hp : e.path.length ≤ 1048576) (ht : e.text.length ≤ 1048576) (w : World) :
    Calls Tryd.prog 72 #[enV e] w fun r w' => r = .returned (.bool (entryOk e)) ∧ Below w.heap.size w w' := by
  obtain ⟨p, kind, mode, t⟩ := e
  simp only at hp ht ⊢
  rcases boolOf (pathOk p) with h1 | h1
  · have hres := Lib.hid (entryOk_bad (e := ⟨p, kind, mode, t⟩) h1.out)
    go_enter Tryd.func72, Tryd.ntmps72
    go_wp2_with (go_at_call 99; refine (l1Path_any p (by omega) _).mono ?_; rintro e w1 ⟨rfl, hB⟩; rw [h1.out]; obtain ⟨c0, c1, c2, c3⟩ := cells4 hB)
    go_ret
    exact ⟨ret_bool (by rw [hres.out]), ((Below.refl _ _).alloc (Nat.le_refl _) _).trans (hB.mono (by simp))⟩
  by_cases hk1 : kind = 1
  · subst hk1
    rcases boolOf (inI mode 0 7) with hin | hin
    · have hres := Lib.hid (entryOk_mode (e := ⟨p, 1, mode, t⟩) hin.out)
      go_enter Tryd.func72, Tryd.ntmps72
      go_wp2_with (first
        | (go_at_call 99; refine (l1Path_any p (by omega) _).mono ?_; rintro e w1 ⟨rfl, hB⟩; rw [h1.out]; obtain ⟨c0, c1, c2, c3⟩ := cells4 hB)
        | (go_at_call 110; refine (l1In_any _ _ _ _).mono ?_; rintro e w' ⟨rfl, rfl⟩; rw [hin.out]))
      go_ret
      exact ⟨ret_bool (by rw [hres.out]), ((Below.refl _ _).alloc (Nat.le_refl _) _).trans (hB.mono (by simp))⟩
    · have hres := Lib.hid (entryOk_dir (e := ⟨p, 1, mode, t⟩) h1.out hin.out rfl)
      go_enter Tryd.func72, Tryd.ntmps72
      go_wp2_with (first
        | (go_at_call 99; refine (l1Path_any p (by omega) _).mono ?_; rintro e w1 ⟨rfl, hB⟩; rw [h1.out]; obtain ⟨c0, c1, c2, c3⟩ := cells4 hB)
        | (go_at_call 110; refine (l1In_any _ _ _ _).mono ?_; rintro e w' ⟨rfl, rfl⟩; rw [hin.out]))
      go_ret
      exact ⟨ret_bool (by rw [hres.out]; first | done | (cases t <;> rfl)), ((Below.refl _ _).alloc (Nat.le_refl _) _).trans (hB.mono (by simp))⟩
  have hb1 : (kind == 1) = false := by rw [beq_eq_false_iff_ne]; exact hk1
  by_cases hk2 : kind = 2
  · subst hk2
    rcases boolOf (inI mode 0 7) with hin | hin
    · have hres := Lib.hid (entryOk_mode (e := ⟨p, 2, mode, t⟩) hin.out)
      go_enter Tryd.func72, Tryd.ntmps72
      go_wp2_with (first
        | (go_at_call 99; refine (l1Path_any p (by omega) _).mono ?_; rintro e w1 ⟨rfl, hB⟩; rw [h1.out]; obtain ⟨c0, c1, c2, c3⟩ := cells4 hB)
        | (go_at_call 110; refine (l1In_any _ _ _ _).mono ?_; rintro e w' ⟨rfl, rfl⟩; rw [hin.out]))
      go_ret
      exact ⟨ret_bool (by rw [hres.out]), ((Below.refl _ _).alloc (Nat.le_refl _) _).trans (hB.mono (by simp))⟩
    · have hres := Lib.hid (entryOk_file (e := ⟨p, 2, mode, t⟩) h1.out hin.out rfl)
      go_enter Tryd.func72, Tryd.ntmps72
      go_wp2_with (first
        | (go_at_call 99; refine (l1Path_any p (by omega) _).mono ?_; rintro e w1 ⟨rfl, hB⟩; rw [h1.out]; obtain ⟨c0, c1, c2, c3⟩ := cells4 hB)
        | (go_at_call 110; refine (l1In_any _ _ _ _).mono ?_; rintro e w' ⟨rfl, rfl⟩; rw [hin.out])
        | (go_at_call 111; refine (l2Text_any t (by omega) _).mono ?_; rintro e w2 ⟨rfl, rfl⟩))
      go_ret
      exact ⟨ret_bool (by rw [hres.out]), ((Below.refl _ _).alloc (Nat.le_refl _) _).trans (hB.mono (by simp))⟩
  have hb2 : (kind == 2) = false := by rw [beq_eq_false_iff_ne]; exact hk2
  by_cases hk3 : kind = 3
  · subst hk3
    clear hk1 hk2
    by_cases hz : mode = 0
    · subst hz
      have hres := Lib.hid (entryOk_link (e := ⟨p, 3, 0, t⟩) h1.out rfl rfl)
      go_enter Tryd.func72, Tryd.ntmps72
      go_wp2_with fail
      refine (l1Path_any p (by omega) _).mono ?_
      rintro e w1 ⟨rfl, hB⟩
      rw [h1.out]
      obtain ⟨c0, c1, c2, c3⟩ := cells4 hB
      go_wp2_with fail
      refine (l1Path_any t (by omega) _).mono ?_
      rintro e w2 ⟨rfl, hB2⟩
      go_wp2
      go_ret
      refine ⟨ret_bool (by rw [hres.out]; rfl), (((Below.refl _ _).alloc (Nat.le_refl _) _).trans (hB.mono (by simp))).trans (hB2.mono ?_)⟩
      have := hB.size
      simp at this
      omega
    · have hz2 : (mode == 0) = false := by rw [beq_eq_false_iff_ne]; exact hz
      have hres : entryOk ⟨p, 3, mode, t⟩ = false := by unfold entryOk; simp [hz]
      replace hres := Lib.hid hres
      go_enter Tryd.func72, Tryd.ntmps72
      go_wp2_with (go_at_call 99; refine (l1Path_any p (by omega) _).mono ?_; rintro e w1 ⟨rfl, hB⟩; rw [h1.out]; obtain ⟨c0, c1, c2, c3⟩ := cells4 hB)
      go_ret
      exact ⟨ret_bool (by rw [hres.out]), ((Below.refl _ _).alloc (Nat.le_refl _) _).trans (hB.mono (by simp))⟩
  have hb3 : (kind == 3) = false := by rw [beq_eq_false_iff_ne]; exact hk3
  have hres := Lib.hid (entryOk_none (e := ⟨p, kind, mode, t⟩) hk1 hk2 hk3)
  go_enter Tryd.func72, Tryd.ntmps72
  go_wp2_with (go_at_call 99; refine (l1Path_any p (by omega) _).mono ?_; rintro e w1 ⟨rfl, hB⟩; rw [h1.out]; obtain ⟨c0, c1, c2, c3⟩ := cells4 hB)
  go_ret
  exact ⟨ret_bool (by rw [hres.out]), ((Below.refl _ _).alloc (Nat.le_refl _) _).trans (hB.mono (by simp))⟩
end Go.Proofs.YtjihpbioofikcaaDoor
