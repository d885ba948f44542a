/-
  The walks of what says whether an entry is valid by itself: the program's and the reference's.
-/
import Derived.Test.YtjihpbioofikcaaDoorGB
namespace Go.Proofs.YtjihpbioofikcaaDoor
open Go.RowKit
set_option linter.unusedVariables false
attribute [local go_sem] mkB_size mkB_extract mkB_get mkB_append mkB_append_raw raw_append_mkB mkB_toList

theorem tk_ok {α : Type} {l : List α} {k : Nat} (hk : k < l.length) {p : α → Bool} (h : (l.take k).all p = true) (hx : p l[k] = true) : (l.take (k + 1)).all p = true := by
  rw [List.take_succ_eq_append_getElem hk, List.all_append, h]; simp [hx]
theorem tk_no {α : Type} {l : List α} {k : Nat} (hk : k < l.length) {p : α → Bool} (hx : p l[k] = false) : l.all p = false := by
  rw [List.all_eq_false]; exact ⟨l[k], List.getElem_mem hk, by simp [hx]⟩
theorem tk_end {α : Type} {l : List α} {k : Nat} (hk : l.length ≤ k) {p : α → Bool} (h : (l.take k).all p = true) : l.all p = true := by
  rwa [List.take_of_length_le hk] at h

def seenI (c : Int) : Bool := decide (32 ≤ c ∧ c ≤ 126)
theorem seenI_eq (c : UInt8) : seenI (c.toNat : Int) = seen c := by
  unfold seenI seen; rw [Bool.eq_iff_iff]; simp only [decide_eq_true_eq]; omega
theorem plainByte_int (c : Int) (h0 : 0 ≤ c) (h1 : c ≤ 255) (w : World) :
    Calls Tryd.prog 124 #[.int .u8 c] w fun e w' => e = .returned (.bool (seenI c)) ∧ w = w' := by
  go_enter Tryd.func124, Tryd.ntmps124
  go_wp2
  all_goals go_ret
  all_goals refine ⟨ret_bool ?_, rfl⟩
  all_goals (unfold seenI; rw [Bool.eq_iff_iff]; first | (simp; done) | (simp; omega))
theorem plainByte_any (c : UInt8) (w : World) :
    Calls Tryd.prog 124 #[.int .u8 (c.toNat : Int)] w fun e w' => e = .returned (.bool (seen c)) ∧ w = w' := by
  have h := plainByte_int (c.toNat : Int) (by omega) (by have := c.toNat_lt; omega) w
  rwa [seenI_eq] at h

theorem fileByte_seen {c : UInt8} (h : seen c = true) : fileByte c = true := by unfold fileByte; rw [h]; rfl
theorem fileByte_line {c : UInt8} (h : c = 10) : fileByte c = true := by subst h; rfl
theorem fileByte_no {c : UInt8} (h : seen c = false) (h2 : ¬ c = 10) : fileByte c = false := by
  unfold fileByte; rw [h]; simp [h2]
theorem fileTextOk_long {l : List UInt8} (h : ¬ l.length ≤ 80) : fileTextOk l = false := by unfold fileTextOk; rw [decide_eq_false h]; rfl
theorem fileTextOk_short {l : List UInt8} (h : l.length ≤ 80) : fileTextOk l = l.all fileByte := by unfold fileTextOk; rw [decide_eq_true h]; rfl

set_option maxHeartbeats 2000000 in
theorem fileText_any (l : List UInt8) (hl : l.length ≤ 9223372036854775807) (w : World) :
    Calls Tryd.prog 94 #[.string (mkB l)] w fun e w' => e = .returned (.bool (fileTextOk l)) ∧ w = w' := by
  by_cases h80 : l.length ≤ 80
  case neg =>
    have hres := Lib.hid (fileTextOk_long h80)
    go_enter Tryd.func94, Tryd.ntmps94
    go_wp2
    go_ret
    exact ⟨ret_bool (by rw [hres.out]), rfl⟩
  have hres := Lib.hid (fileTextOk_short h80)
  go_enter Tryd.func94, Tryd.ntmps94
  go_wp2
  go_loop [9] (fun i => ∃ k : Nat, k ≤ l.length ∧ i = .int .i64 k ∧ Hid ((l.take k).all fileByte = true)) (fun i => l.length - (intOf i).toNat)
  case atStart => exact ⟨0, Nat.zero_le _, rfl, Lib.hid (by simp)⟩
  case round =>
    obtain ⟨k, hk, rfl, hall⟩ := hrel
    by_cases hlt : k < l.length
    · rcases boolOf (seen l[k]) with hb | hb
      · by_cases h10 : l[k] = 10
        · have h10' : ((l[k].toNat : Int) != 10) = false := by rw [h10]; rfl
          have hf := Lib.hid (fileByte_line h10)
          replace h10 := Lib.hid h10
          go_wp2_with (go_at_call 124; refine (plainByte_any _ _).mono ?_; rintro e w' ⟨rfl, rfl⟩; rw [hb.out])
          go_round
          case rel => exact ⟨k + 1, by omega, by go_num, Lib.hid (tk_ok hlt hall.out hf.out)⟩
          case measure => simp [intOf]; omega
        · have h10' : ((l[k].toNat : Int) != 10) = true := by
            have := u8_ne (b := 10) h10
            rw [bne]; rw [show ((10 : UInt8).toNat : Int) = 10 from rfl] at this; rw [this]; rfl
          have hf := Lib.hid (fileByte_no hb.out h10)
          replace h10 := Lib.hid h10
          go_wp2_with (go_at_call 124; refine (plainByte_any _ _).mono ?_; rintro e w' ⟨rfl, rfl⟩; rw [hb.out])
          go_ret
          exact ⟨ret_bool (by rw [hres.out, tk_no hlt hf.out]), rfl⟩
      · go_wp2_with (go_at_call 124; refine (plainByte_any _ _).mono ?_; rintro e w' ⟨rfl, rfl⟩; rw [hb.out])
        go_round
        case rel => exact ⟨k + 1, by omega, by go_num, Lib.hid (tk_ok hlt hall.out (fileByte_seen hb.out))⟩
        case measure => simp [intOf]; omega
    · go_wp2
      go_ret
      exact ⟨ret_bool (by rw [hres.out, tk_end (by omega) hall.out]), rfl⟩

theorem cells4 {w w1 : World} {a b c d : Value} {t : TypeId} (hB : Below (w.alloc (.cells #[a, b, c, d] t)).heap.size (w.alloc (.cells #[a, b, c, d] t)) w1) :
    w1.cell? ⟨w.heap.size, 0, none⟩ = some a ∧ w1.cell? ⟨w.heap.size, 1, none⟩ = some b ∧ w1.cell? ⟨w.heap.size, 2, none⟩ = some c ∧ w1.cell? ⟨w.heap.size, 3, none⟩ = some d := by
  have h : Box4 w1 w.heap.size t a b c d := (Box4.new w t a b c d).below hB (by simp)
  exact ⟨h.cell0, h.cell1, h.cell2, h.cell3⟩

theorem entryOk_bad {e : En} (h : pathOk e.path = false) : entryOk e = false := by unfold entryOk; rw [h]; rfl
theorem entryOk_mode {e : En} (h : inI e.mode 0 7 = false) : entryOk e = false := by unfold entryOk; rw [h]; simp
theorem entryOk_dir {e : En} (h : pathOk e.path = true) (h2 : inI e.mode 0 7 = true) (hk : e.kind = 1) : entryOk e = e.text.isEmpty := by unfold entryOk; rw [h, h2, if_pos hk]; rfl
theorem entryOk_file {e : En} (h : pathOk e.path = true) (h2 : inI e.mode 0 7 = true) (hk : e.kind = 2) : entryOk e = fileTextOk e.text := by unfold entryOk; rw [h, h2, if_neg (by omega), if_pos hk]; rfl
theorem entryOk_link {e : En} (h : pathOk e.path = true) (h2 : inI e.mode 0 7 = true) (hk : e.kind = 3) : entryOk e = (decide (e.mode = 0) && pathOk e.text) := by unfold entryOk; rw [h, h2, if_neg (by omega), if_neg (by omega), if_pos hk]; rfl
theorem entryOk_none {e : En} (h1 : ¬ e.kind = 1) (h2 : ¬ e.kind = 2) (h3 : ¬ e.kind = 3) : entryOk e = false := by unfold entryOk; rw [if_neg h1, if_neg h2, if_neg h3]; simp
theorem inI_no {n lo hi : Int} (h : n < lo ∨ hi < n) : inI n lo hi = false := by
  unfold inI; rw [Bool.and_eq_false_iff]; rcases h with h | h
  · exact .inl (decide_eq_false (by omega))
  · exact .inr (decide_eq_false (by omega))
theorem inI_yes {n lo hi : Int} (h : lo ≤ n) (h2 : n ≤ hi) : inI n lo hi = true := by unfold inI; rw [decide_eq_true h, decide_eq_true h2]; rfl

set_option maxHeartbeats 4000000 in
theorem entryOk_any (e : En) (hp : e.path.length ≤ 1048576) (ht : e.text.length ≤ 1048576) (w : World) :
    Calls Tryd.prog 54 #[enV e] w fun r w' => r = .returned (.bool (entryOk e)) ∧ Below w.heap.size w w' := by
  obtain ⟨p, kind, mode, t⟩ := e
  simp only at hp ht ⊢
  have hpm : (mkB p).size ≤ 140737488355328 := by rw [mkB_size]; omega
  have htm : (mkB t).size ≤ 140737488355328 := by rw [mkB_size]; omega
  rcases boolOf (pathOk p) with h1 | h1
  · have hres := Lib.hid (entryOk_bad (e := ⟨p, kind, mode, t⟩) h1.out)
    go_enter Tryd.func54, Tryd.ntmps54
    go_wp2_with (go_at_call 62; refine (PathOk_any _ hpm _).mono ?_; rintro e w1 ⟨rfl, hB⟩; rw [mkB_data, h1.out]; obtain ⟨c0, c1, c2, c3⟩ := cells4 hB)
    go_ret
    exact ⟨ret_bool (by rw [hres.out]), ((Below.refl _ _).alloc (Nat.le_refl _) _).trans (hB.mono (by simp))⟩
  by_cases hm0 : mode < 0
  · have hres := Lib.hid (entryOk_mode (e := ⟨p, kind, mode, t⟩) (inI_no (.inl hm0)))
    go_enter Tryd.func54, Tryd.ntmps54
    go_wp2_with (go_at_call 62; refine (PathOk_any _ hpm _).mono ?_; rintro e w1 ⟨rfl, hB⟩; rw [mkB_data, h1.out]; obtain ⟨c0, c1, c2, c3⟩ := cells4 hB)
    go_ret
    exact ⟨ret_bool (by rw [hres.out]), ((Below.refl _ _).alloc (Nat.le_refl _) _).trans (hB.mono (by simp))⟩
  by_cases hm7 : 7 < mode
  · have hres := Lib.hid (entryOk_mode (e := ⟨p, kind, mode, t⟩) (inI_no (.inr hm7)))
    go_enter Tryd.func54, Tryd.ntmps54
    go_wp2_with (go_at_call 62; refine (PathOk_any _ hpm _).mono ?_; rintro e w1 ⟨rfl, hB⟩; rw [mkB_data, h1.out]; obtain ⟨c0, c1, c2, c3⟩ := cells4 hB)
    go_ret
    exact ⟨ret_bool (by rw [hres.out]), ((Below.refl _ _).alloc (Nat.le_refl _) _).trans (hB.mono (by simp))⟩
  have hin : inI mode 0 7 = true := inI_yes (by omega) (by omega)
  by_cases hk1 : kind = 1
  · subst hk1
    have hres := Lib.hid (entryOk_dir (e := ⟨p, 1, mode, t⟩) h1.out hin rfl)
    clear hin
    go_enter Tryd.func54, Tryd.ntmps54
    go_wp2_with (go_at_call 62; refine (PathOk_any _ hpm _).mono ?_; rintro e w1 ⟨rfl, hB⟩; rw [mkB_data, h1.out]; obtain ⟨c0, c1, c2, c3⟩ := cells4 hB)
    go_ret
    refine ⟨ret_bool ?_, ((Below.refl _ _).alloc (Nat.le_refl _) _).trans (hB.mono (by simp))⟩
    rw [hres.out]
  have hb1 : (kind == 1) = false := by rw [beq_eq_false_iff_ne]; exact hk1
  by_cases hk2 : kind = 2
  · subst hk2
    have hres := Lib.hid (entryOk_file (e := ⟨p, 2, mode, t⟩) h1.out hin rfl)
    clear hin hk1
    go_enter Tryd.func54, Tryd.ntmps54
    go_wp2_with (first
      | (go_at_call 62; refine (PathOk_any _ hpm _).mono ?_; rintro e w1 ⟨rfl, hB⟩; rw [mkB_data, h1.out]; obtain ⟨c0, c1, c2, c3⟩ := cells4 hB)
      | (go_at_call 94; refine (fileText_any t (by omega) _).mono ?_; rintro e w2 ⟨rfl, rfl⟩))
    go_ret
    exact ⟨ret_bool (by rw [hres.out]), ((Below.refl _ _).alloc (Nat.le_refl _) _).trans (hB.mono (by simp))⟩
  have hb2 : (kind == 2) = false := by rw [beq_eq_false_iff_ne]; exact hk2
  by_cases hk3 : kind = 3
  · subst hk3
    have hres := Lib.hid (entryOk_link (e := ⟨p, 3, mode, t⟩) h1.out hin rfl)
    clear hin hk1 hk2
    by_cases hz : mode = 0
    · subst hz
      go_enter Tryd.func54, Tryd.ntmps54
      go_wp2_with fail
      refine (PathOk_any _ hpm _).mono ?_
      rintro e w1 ⟨rfl, hB⟩
      rw [mkB_data, h1.out]
      obtain ⟨c0, c1, c2, c3⟩ := cells4 hB
      go_wp2_with fail
      refine (PathOk_any _ htm _).mono ?_
      rintro e w2 ⟨rfl, hB2⟩
      rw [mkB_data]
      go_wp2
      go_ret
      refine ⟨ret_bool (by rw [hres.out]; rfl), (((Below.refl _ _).alloc (Nat.le_refl _) _).trans (hB.mono (by simp))).trans (hB2.mono ?_)⟩
      have := hB.size
      simp at this
      omega
    · have hz2 : (mode == 0) = false := by rw [beq_eq_false_iff_ne]; exact hz
      go_enter Tryd.func54, Tryd.ntmps54
      go_wp2_with (go_at_call 62; refine (PathOk_any _ hpm _).mono ?_; rintro e w1 ⟨rfl, hB⟩; rw [mkB_data, h1.out]; obtain ⟨c0, c1, c2, c3⟩ := cells4 hB)
      go_ret
      exact ⟨ret_bool (by rw [hres.out]; simp [hz]), ((Below.refl _ _).alloc (Nat.le_refl _) _).trans (hB.mono (by simp))⟩
  have hb3 : (kind == 3) = false := by rw [beq_eq_false_iff_ne]; exact hk3
  have hres := Lib.hid (entryOk_none (e := ⟨p, kind, mode, t⟩) hk1 hk2 hk3)
  clear hin
  go_enter Tryd.func54, Tryd.ntmps54
  go_wp2_with (go_at_call 62; refine (PathOk_any _ hpm _).mono ?_; rintro e w1 ⟨rfl, hB⟩; rw [mkB_data, h1.out]; obtain ⟨c0, c1, c2, c3⟩ := cells4 hB)
  go_ret
  exact ⟨ret_bool (by rw [hres.out]), ((Below.refl _ _).alloc (Nat.le_refl _) _).trans (hB.mono (by simp))⟩
end Go.Proofs.YtjihpbioofikcaaDoor
