/-
  The walks of the reference's l1Path and PathOk.
-/
import Derived.Test.YtgccndhnpmmkfaaDoorCut
import Derived.Test.YtgccndhnpmmkfaaDoorPathOk
namespace Go.Proofs.YtgccndhnpmmkfaaDoor
open Go.RowKit
attribute [local go_sem] mkB_size mkB_extract

/-- a row of texts of the call's own: what its cells hold -/
theorem strs_cell {w : World} {base g n cap : Nat} {xs : List (List UInt8)} (h : w.ownsRow base 9 1 (.slice (some ⟨g, 0, none⟩) n cap) n (xs.map strV)) (k : Nat) (hk : k < xs.length) : w.cell? ⟨g, k, none⟩ = some (.string (mkB xs[k])) := by
  have hl := h.1
  simp at hl
  rw [h.cellAt k (by omega)]
  simp [strV, hk]

theorem cut_form {w : World} {base : Nat} {v : Value} {b : UInt8} {l : List UInt8} (h : w.ownsRow base 9 1 v (cut b l).length ((cut b l).map strV)) : ∃ g cap, v = .slice (some ⟨g, 0, none⟩) (cut b l).length cap := by
  have hn : 0 < (cut b l).length := List.length_pos_iff.2 (cut_ne_nil b l)
  rcases h.2 with ⟨_, h0⟩ | ⟨g, cap, _, hv, _⟩
  · omega
  · exact ⟨g, cap, hv⟩

theorem take_all_ok {xs : List (List UInt8)} {k : Nat} (hk : k < xs.length) {p : List UInt8 → Bool} (h : (xs.take k).all p = true) (hx : p xs[k] = true) : (xs.take (k + 1)).all p = true := by
  rw [List.take_succ_eq_append_getElem hk, List.all_append, h]; simp [hx]
theorem take_all_no {xs : List (List UInt8)} {k : Nat} (hk : k < xs.length) {p : List UInt8 → Bool} (hx : p xs[k] = false) : xs.all p = false := by
  rw [List.all_eq_false]; exact ⟨xs[k], List.getElem_mem hk, by simp [hx]⟩

set_option maxHeartbeats 1000000 in
theorem l1Path_any (l : List UInt8) (hl : l.length ≤ 1099511627776) (w : World) :
    Calls Tryd.prog 26 #[.string (mkB l)] w fun e w' => e = .returned (.bool (pathOk l)) ∧ Below w.heap.size w w' := by
  go_enter Tryd.func26, Tryd.ntmps26
  go_wp2_with fail
  refine (l1Cut_any l 47 hl _).mono ?_
  rintro e w1 ⟨v, rfl, hown, hB⟩
  obtain ⟨g, cap, rfl⟩ := cut_form hown
  have hlen : (cut 47 l).length ≤ l.length + 1 := by
    have := cut_sum 47 l; omega
  obtain ⟨xs, hxs⟩ : ∃ xs, cut 47 l = xs := ⟨_, rfl⟩
  rw [hxs] at hown hlen ⊢
  have hxs' := Lib.hid hxs
  clear hxs
  go_wp2
  go_loop [4] (fun i => ∃ k : Nat, k ≤ xs.length ∧ i = .int .i64 k ∧ Hid ((xs.take k).all nameOk = true)) (fun i => xs.length - (intOf i).toNat)
  case atStart => exact ⟨0, Nat.zero_le _, rfl, Lib.hid rfl⟩
  case round =>
    obtain ⟨k, hk, rfl, hall⟩ := hrel
    by_cases hlt : k < xs.length
    · have hc := strs_cell hown k hlt
      have hx : xs[k].length ≤ l.length := cut_mem_length (b := 47) (by rw [hxs'.out]; exact List.getElem_mem hlt)
      have hxl : (mkB xs[k]).size ≤ 9223372036854775807 := by rw [mkB_size]; omega
      rcases boolOf (nameOk xs[k]) with hb | hb
      · go_wp2_with (go_at_call 37; refine (l1Name_any _ hxl _).mono ?_; rintro e w' ⟨rfl, rfl⟩; rw [mkB_data, hb.out])
        go_ret
        refine ⟨ret_bool ?_, hB⟩
        unfold pathOk
        rw [hxs'.out, take_all_no hlt hb.out]; rfl
      · go_wp2_with (go_at_call 37; refine (l1Name_any _ hxl _).mono ?_; rintro e w' ⟨rfl, rfl⟩; rw [mkB_data, hb.out])
        go_round
        case rel => exact ⟨k + 1, by omega, by go_num, Lib.hid (take_all_ok hlt hall.out hb.out)⟩
        case measure => simp [intOf]; omega
    · go_wp2
      go_ret
      refine ⟨ret_bool ?_, hB⟩
      have h := hall.out
      rw [List.take_of_length_le (by omega)] at h
      unfold pathOk
      rw [hxs'.out, h]
      rw [Bool.eq_iff_iff]; simp; omega

theorem specPathOk_any (l : List UInt8) (hl : l.length ≤ 1099511627776) (w : World) :
    Calls Tryd.prog 12 #[.string (mkB l)] w fun e w' => e = .returned (.bool (pathOk l)) ∧ Below w.heap.size w w' := by
  go_enter Tryd.func12, Tryd.ntmps12
  go_wp2_with (go_at_call 26; refine (l1Path_any _ hl _).mono ?_; rintro e w1 ⟨rfl, hB⟩)
  go_ret
  exact ⟨rfl, hB⟩
end Go.Proofs.YtgccndhnpmmkfaaDoor
