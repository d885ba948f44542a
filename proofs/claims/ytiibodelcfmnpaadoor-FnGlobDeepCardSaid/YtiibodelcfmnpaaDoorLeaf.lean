/-
  The walks of the small functions on names: nameByte, nameBytes, nameOk; l1Small, l1Name.
-/
import Derived.Test.YtiibodelcfmnpaaDoorBasic
namespace Go.Proofs.YtiibodelcfmnpaaDoor
open Go.RowKit

theorem nameOk_short {l : List UInt8} (h : l.length ≤ 10) : nameOk l = (!l == [46] && !l == [46, 46] && nameBytes l) := by
  unfold nameOk; rw [decide_eq_true h]; rfl
theorem nameOk_long {l : List UInt8} (h : 10 < l.length) : nameOk l = false := by
  unfold nameOk; rw [decide_eq_false (by omega)]; rfl
theorem nameOk_out {l : List UInt8} (h : l.length = 0 ∨ 10 < l.length) : nameOk l = false := by
  rcases h with h | h
  · rw [List.eq_nil_of_length_eq_zero h]; rfl
  · exact nameOk_long h
theorem nameBytes_of {l : List UInt8} (h : l.all nb = true) (h1 : 1 ≤ l.length) : nameBytes l = true := by
  unfold nameBytes; rw [h]
  cases l with
  | nil => simp at h1
  | cons => rfl
theorem nameByte_int (c : Int) (h0 : 0 ≤ c) (h1 : c ≤ 255) (w : World) :
    Calls Tryd.prog 51 #[.int .u8 c] w fun e w' => e = .returned (.bool (nbI c)) ∧ w = w' := by
  go_enter Tryd.func51, Tryd.ntmps51
  go_wp2
  all_goals go_ret
  all_goals refine ⟨ret_bool ?_, rfl⟩
  all_goals (unfold nbI; rw [Bool.eq_iff_iff]; first | (simp; done) | (simp; omega))
theorem nameByte_any (c : UInt8) (w : World) :
    Calls Tryd.prog 51 #[.int .u8 (c.toNat : Int)] w fun e w' => e = .returned (.bool (nb c)) ∧ w = w' := by
  have h := nameByte_int (c.toNat : Int) (by omega) (by have := c.toNat_lt; omega) w
  rwa [nbI_eq] at h
theorem l1Small_int (c : Int) (h0 : 0 ≤ c) (h1 : c ≤ 255) (w : World) :
    Calls Tryd.prog 33 #[.int .u8 c] w fun e w' => e = .returned (.bool (nbI c)) ∧ w = w' := by
  go_enter Tryd.func33, Tryd.ntmps33
  go_wp2
  all_goals go_ret
  all_goals refine ⟨ret_bool ?_, rfl⟩
  all_goals (unfold nbI; rw [Bool.eq_iff_iff]; first | (simp; done) | (simp; omega))
theorem l1Small_any (c : UInt8) (w : World) :
    Calls Tryd.prog 33 #[.int .u8 (c.toNat : Int)] w fun e w' => e = .returned (.bool (nb c)) ∧ w = w' := by
  have h := l1Small_int (c.toNat : Int) (by omega) (by have := c.toNat_lt; omega) w
  rwa [nbI_eq] at h

set_option maxHeartbeats 1000000 in
theorem nameBytes_any (s : ByteArray) (hs : s.size ≤ 9223372036854775807) (w : World) :
    Calls Tryd.prog 41 #[.string s] w fun e w' => e = .returned (.bool (nameBytes s.data.toList)) ∧ w = w' := by
  go_enter Tryd.func41, Tryd.ntmps41
  go_wp2
  go_loop [6] (fun i => ∃ k : Nat, k ≤ s.size ∧ i = .int .i64 k ∧ Hid ((s.data.toList.take k).all nb = true)) (fun i => s.size - (intOf i).toNat)
  case atStart => exact ⟨0, Nat.zero_le _, rfl, rfl⟩
  case round =>
    obtain ⟨k, hk, rfl, hall⟩ := hrel
    by_cases hlt : k < s.size
    · rcases boolOf (nb s[k]) with hb | hb
      · go_wp2_with (go_at_call 51; refine (nameByte_any _ _).mono ?_; rintro e w' ⟨rfl, rfl⟩; rw [hb.out])
        go_ret
        refine ⟨ret_bool ?_, rfl⟩
        unfold nameBytes
        rw [all_not nb s k hlt hb.out]; rfl
      · go_wp2_with (go_at_call 51; refine (nameByte_any _ _).mono ?_; rintro e w' ⟨rfl, rfl⟩; rw [hb.out])
        go_round
        case rel => exact ⟨k + 1, by omega, by go_num, all_snoc nb s k hlt hall.out hb.out⟩
        case measure => simp [intOf]; omega
    · go_wp2
      go_ret
      refine ⟨ret_bool ?_, rfl⟩
      have h := hall.out
      rw [take_all s k (by omega)] at h
      unfold nameBytes
      rw [h]
      rw [Lib.toList_data]; rfl

set_option maxHeartbeats 1000000 in
theorem nameOk_any (s : ByteArray) (hs : s.size ≤ 9223372036854775807) (w : World) :
    Calls Tryd.prog 25 #[.string s] w fun e w' => e = .returned (.bool (nameOk s.data.toList)) ∧ w = w' := by
  go_enter Tryd.func25, Tryd.ntmps25
  go_wp2_with (go_at_call 41; refine (nameBytes_any _ hs _).mono ?_; rintro e w' ⟨rfl, rfl⟩)
  all_goals go_ret
  all_goals refine ⟨ret_bool ?_, rfl⟩
  all_goals rw [← Lib.toList_data]
  · have h : s.toList = [46] := by assumption
    rw [h]; rfl
  · have h : s.toList = [46, 46] := by assumption
    rw [h]; rfl
  · have h : (s.size : Int) ≤ 10 := by assumption
    exact (nameOk_short (by rw [Lib.toList_data, ← Lib.size_eq]; omega)).symm
  · have h : 10 < (s.size : Int) := by assumption
    exact (nameOk_long (by rw [Lib.toList_data, ← Lib.size_eq]; omega)).symm

set_option maxHeartbeats 1000000 in
theorem l1Name_any (s : ByteArray) (hs : s.size ≤ 9223372036854775807) (w : World) :
    Calls Tryd.prog 42 #[.string s] w fun e w' => e = .returned (.bool (nameOk s.data.toList)) ∧ w = w' := by
  go_enter Tryd.func42, Tryd.ntmps42
  go_wp2
  go_loop [3] (fun i => ∃ k : Nat, k ≤ s.size ∧ i = .int .i64 k ∧ Hid ((s.data.toList.take k).all nb = true)) (fun i => s.size - (intOf i).toNat)
  case atStart => exact ⟨0, Nat.zero_le _, rfl, rfl⟩
  case round =>
    obtain ⟨k, hk, rfl, hall⟩ := hrel
    by_cases hlt : k < s.size
    · rcases boolOf (nb s[k]) with hb | hb
      · go_wp2_with (go_at_call 33; refine (l1Small_any _ _).mono ?_; rintro e w' ⟨rfl, rfl⟩; rw [hb.out])
        go_ret
        refine ⟨ret_bool ?_, rfl⟩
        unfold nameOk nameBytes
        rw [all_not nb s k hlt hb.out]; simp
      · go_wp2_with (go_at_call 33; refine (l1Small_any _ _).mono ?_; rintro e w' ⟨rfl, rfl⟩; rw [hb.out])
        go_round
        case rel => exact ⟨k + 1, by omega, by go_num, all_snoc nb s k hlt hall.out hb.out⟩
        case measure => simp [intOf]; omega
    · go_wp2_with (go_at_call 56; refine (l1In_any _ _ _ _).mono ?_; rintro e w' ⟨rfl, rfl⟩)
      all_goals go_ret
      all_goals refine ⟨ret_bool ?_, rfl⟩
      all_goals rw [← Lib.toList_data]
      all_goals have hall' := hall.out
      all_goals rw [take_all s k (by omega)] at hall'
      · have h : s.toList = [46] := by assumption
        rw [h]; rfl
      · have h : inI (s.size : Int) 1 10 = true := by assumption
        simp [inI] at h
        have hz := Lib.size_eq s
        rw [nameOk_short (by rw [Lib.toList_data, ← Lib.size_eq]; omega), nameBytes_of (by rw [Lib.toList_data]; exact hall') (by rw [Lib.toList_data]; omega)]
        simp
      · have h : ¬ inI (s.size : Int) 1 10 = true := by assumption
        simp [inI] at h
        have hz := Lib.size_eq s
        refine (nameOk_out ?_).symm
        rw [Lib.toList_data]; omega
end Go.Proofs.YtiibodelcfmnpaaDoor
