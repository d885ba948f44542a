/-
  The walk of the reference's l1Many.
-/
import Derived.Test.YtcgnoohllfbmcaaDoorPick
namespace Go.Proofs.YtcgnoohllfbmcaaDoor
open Go.RowKit
set_option linter.unusedVariables false
set_option linter.unusedSimpArgs false
attribute [local go_sem] mkB_size mkB_extract mkB_append mkB_append_raw raw_append_mkB mkB_toList

set_option maxHeartbeats 2000000 in
theorem l1Many_any (c : UInt8) (N : Nat) (hN : N ≤ 1000) (w : World) :
    Calls Tryd.prog 16 #[.string (mkB [c]), .int .i64 N] w fun e w' => e = .returned (.string (mkB (List.replicate N c))) ∧ w = w' := by
  go_enter Tryd.func16, Tryd.ntmps16
  go_wp2
  go_loopw [0, 1, 5] (fun s n out wr => ∃ a b m : Nat, s = .string (mkB (List.replicate b c)) ∧ n = .int .i64 m ∧ out = .string (mkB (List.replicate a c)) ∧ Hid (a + b * m = N) ∧ b ≤ 2 * N + 1 ∧ a ≤ N ∧ m ≤ N ∧ w = wr) (fun _ n _ _ => (intOf n).toNat)
  case atStart => exact ⟨0, 1, N, rfl, rfl, rfl, Lib.hid (by omega), by omega, by omega, Nat.le_refl _, rfl⟩
  case round =>
    obtain ⟨a, b, m, rfl, rfl, rfl, hs, hb, ha, hm, rfl⟩ := hrel
    rcases Nat.eq_zero_or_pos m with h0 | h0
    · subst h0
      have haN : a = N := by have := hs.out; omega
      subst haN
      go_wp2
      go_ret
      exact ⟨rfl, rfl⟩
    · have hmI : (0 : Int) < (m : Int) := by omega
      have hbN : b ≤ N := by have := hs.out; have := Nat.le_mul_of_pos_right b h0; omega
      have h1 : (mkB (List.replicate b c)).size + (mkB (List.replicate b c)).size ≤ 140737488355328 := by simp [mkB_size]; omega
      have h2 : (mkB (List.replicate a c)).size + (mkB (List.replicate b c)).size ≤ 140737488355328 := by simp [mkB_size]; omega
      have hw : IntKind.i64.wrap ((m : Int) / 2) = (m : Int) / 2 := by rw [IntKind.wrap_i64]; omega
      by_cases hodd : m % 2 = 1
      · have hoI : (m : Int) % 2 = 1 := by omega
        have hnx : (a + b) + (b + b) * (m / 2) = N := by
          have h3 : m = 2 * (m / 2) + 1 := by omega
          have h4 := hs.out
          rw [h3] at h4
          rw [← h4]
          simp only [Nat.mul_add, Nat.add_mul, Nat.mul_one, Nat.two_mul]
          omega
        have hab : a + b ≤ N := by omega
        replace hnx := Lib.hid hnx
        replace hodd := Lib.hid hodd
        go_wp2
        go_round
        case rel => exact ⟨a + b, b + b, m / 2, rfl, by go_num, rfl, hnx, by omega, by omega, by omega, by first | rfl | trivial⟩
        case measure => simp [intOf]; omega
      · have hoI : ¬ (m : Int) % 2 = 1 := by omega
        have hnx : a + (b + b) * (m / 2) = N := by
          have h3 : m = 2 * (m / 2) := by omega
          have h4 := hs.out
          rw [h3] at h4
          rw [← h4]
          simp only [Nat.mul_add, Nat.add_mul, Nat.mul_one, Nat.two_mul]
        replace hnx := Lib.hid hnx
        replace hodd := Lib.hid hodd
        go_wp2
        go_round
        case rel => exact ⟨a, b + b, m / 2, rfl, by go_num, rfl, hnx, by omega, by omega, by omega, by first | rfl | trivial⟩
        case measure => simp [intOf]; omega
end Go.Proofs.YtcgnoohllfbmcaaDoor
