/-
  The walks of the reference's l1Path and PathOk.
-/
import Derived.Test.YtiibodelcfmnpaaDoorPathOrd
import Derived.Test.YtiibodelcfmnpaaDoorLeaf
import Derived.Test.YtiibodelcfmnpaaDoorPathOk
namespace Go.Proofs.YtiibodelcfmnpaaDoor
open Go.RowKit
attribute [local go_sem] mkB_size mkB_extract

set_option maxHeartbeats 1000000 in
theorem l1Path_any (l : List UInt8) (hl : l.length ≤ 1099511627776) (w : World) :
    Calls Tryd.prog 26 #[.string (mkB l)] w fun e w' => e = .returned (.bool (pathOk l)) ∧ Below w.heap.size w w' := by
  go_enter Tryd.func26, Tryd.ntmps26
  go_wp2_with fail
  refine (l1Cut_any l 47 hl _).mono ?_
  rintro e w1 ⟨v, rfl, hown, hB⟩
  obtain ⟨g, cap, rfl⟩ := cut_form hown
  have hlen : (cut 47 l).length ≤ l.length + 1 := by
    have := cut_sum 47 l; omega
  obtain ⟨xs, hxs⟩ : ∃ xs, cut 47 l = xs := ⟨_, rfl⟩
  rw [hxs] at hown hlen ⊢
  have hxs' := Lib.hid hxs
  clear hxs
  go_wp2
  go_loop [4] (fun i => ∃ k : Nat, k ≤ xs.length ∧ i = .int .i64 k ∧ Hid ((xs.take k).all nameOk = true)) (fun i => xs.length - (intOf i).toNat)
  case atStart => exact ⟨0, Nat.zero_le _, rfl, Lib.hid rfl⟩
  case round =>
    obtain ⟨k, hk, rfl, hall⟩ := hrel
    by_cases hlt : k < xs.length
    · have hc := strs_cell hown k hlt
      have hx : xs[k].length ≤ l.length := cut_mem_length (b := 47) (by rw [hxs'.out]; exact List.getElem_mem hlt)
      have hxl : (mkB xs[k]).size ≤ 9223372036854775807 := by rw [mkB_size]; omega
      rcases boolOf (nameOk xs[k]) with hb | hb
      · go_wp2_with (go_at_call 42; refine (l1Name_any _ hxl _).mono ?_; rintro e w' ⟨rfl, rfl⟩; rw [mkB_data, hb.out])
        go_ret
        refine ⟨ret_bool ?_, hB⟩
        unfold pathOk
        rw [hxs'.out, take_all_no hlt hb.out]; rfl
      · go_wp2_with (go_at_call 42; refine (l1Name_any _ hxl _).mono ?_; rintro e w' ⟨rfl, rfl⟩; rw [mkB_data, hb.out])
        go_round
        case rel => exact ⟨k + 1, by omega, by go_num, Lib.hid (take_all_ok hlt hall.out hb.out)⟩
        case measure => simp [intOf]; omega
    · go_wp2
      go_ret
      refine ⟨ret_bool ?_, hB⟩
      have h := hall.out
      rw [List.take_of_length_le (by omega)] at h
      unfold pathOk
      rw [hxs'.out, h]
      rw [Bool.eq_iff_iff]; simp; omega

theorem specPathOk_any (l : List UInt8) (hl : l.length ≤ 1099511627776) (w : World) :
    Calls Tryd.prog 13 #[.string (mkB l)] w fun e w' => e = .returned (.bool (pathOk l)) ∧ Below w.heap.size w w' := by
  go_enter Tryd.func13, Tryd.ntmps13
  go_wp2_with (go_at_call 26; refine (l1Path_any _ hl _).mono ?_; rintro e w1 ⟨rfl, hB⟩)
  go_ret
  exact ⟨rfl, hB⟩
end Go.Proofs.YtiibodelcfmnpaaDoor
