/-
  The walks of the functions on needs: NeedOk.
-/
import Derived.Test.YtdcfifhmldolhaaDoorVers
import Derived.Test.YtdcfifhmldolhaaDoorPlainN
namespace Go.Proofs.YtdcfifhmldolhaaDoor
open Go.RowKit
set_option linter.unusedVariables false
attribute [local go_sem] mkB_size mkB_extract mkB_get mkB_toList

set_option maxHeartbeats 1000000 in
theorem l3Pack_any (l : List UInt8) (hl : l.length ≤ 9223372036854775807) (w : World) :
    Calls Tryd.prog 22 #[.string (mkB l)] w fun e w' => e = .returned (.bool (packOk l)) ∧ w = w' := by
  go_enter Tryd.func22, Tryd.ntmps22
  go_wp2
  go_loop [3] (fun i => ∃ k : Nat, k ≤ l.length ∧ i = .int .i64 k ∧ Hid ((l.take k).all lowDig = true) ∧ Hid (∀ h : 0 < l.length, 0 < k → low l[0] = true)) (fun i => l.length - (intOf i).toNat)
  case atStart => exact ⟨0, Nat.zero_le _, rfl, Lib.hid rfl, Lib.hid (by intro _ h; omega)⟩
  case round =>
    obtain ⟨k, hk, rfl, ha, hh⟩ := hrel
    by_cases hlt : k < l.length
    · rcases cls l[k] with ⟨hc, hr⟩ | ⟨hc, hr1, hr2⟩ | ⟨hc, hr1, hr2⟩
      · have hbad := Lib.hid (packOk_bad hlt hc.out.1)
        rcases Nat.eq_zero_or_pos k with hk0 | hk0
        · subst hk0
          rcases hr with hr | ⟨hr, hr2⟩ | hr
          · go_wp2
            go_ret
            exact ⟨ret_bool hbad.out.symm, rfl⟩
          · go_wp2
            go_ret
            exact ⟨ret_bool hbad.out.symm, rfl⟩
          · have h97 : 97 ≤ (l[0].toNat : Int) := by omega
            have h57 : 57 < (l[0].toNat : Int) := by omega
            go_wp2
            · go_ret
              exact ⟨ret_bool hbad.out.symm, rfl⟩
            · exfalso; rename_i h; simp at h; omega
        · have hkz : ((k : Int) == 0) = false := by rw [beq_eq_false_iff_ne]; omega
          rcases hr with hr | ⟨hr, hr2⟩ | hr
          · go_wp2
            go_ret
            exact ⟨ret_bool hbad.out.symm, rfl⟩
          · go_wp2
            go_ret
            exact ⟨ret_bool hbad.out.symm, rfl⟩
          · have h97 : 97 ≤ (l[k].toNat : Int) := by omega
            have h57 : 57 < (l[k].toNat : Int) := by omega
            go_wp2
            · go_ret
              exact ⟨ret_bool hbad.out.symm, rfl⟩
            · exfalso; rename_i h; simp at h; omega
      · go_wp2
        go_round
        case rel =>
          refine ⟨k + 1, by omega, by go_num, Lib.hid (all_takeP hlt ha.out hc.out.1), Lib.hid (fun h _ => ?_)⟩
          rcases Nat.eq_zero_or_pos k with rfl | hk0
          · exact hc.out.2
          · exact hh.out h hk0
        case measure => simp [intOf]; omega
      · rcases Nat.eq_zero_or_pos k with hk0 | hk0
        · subst hk0
          have hbad := Lib.hid (packOk_head hlt hc.out.2)
          go_wp2
          go_ret
          exact ⟨ret_bool hbad.out.symm, rfl⟩
        · have hkz : ((k : Int) == 0) = false := by rw [beq_eq_false_iff_ne]; omega
          go_wp2
          go_round
          case rel => exact ⟨k + 1, by omega, by go_num, Lib.hid (all_takeP hlt ha.out hc.out.1), Lib.hid (fun h _ => hh.out h hk0)⟩
          case measure => simp [intOf]; omega
    · have hkl : k = l.length := by omega
      subst hkl
      have ha' := ha.out
      rw [List.take_length] at ha'
      have ha2 := Lib.hid ha'
      clear ha ha'
      go_wp2_with (go_at_call 23; refine (l1In_any _ _ _ _).mono ?_; rintro e w' ⟨rfl, rfl⟩)
      go_ret
      refine ⟨ret_bool ?_, rfl⟩
      unfold inI
      by_cases h0 : 0 < l.length
      · by_cases h10 : l.length ≤ 10
        · rw [packOk_good h0 (hh.out h0 h0) ha2.out h10]; simp; omega
        · rw [packOk_long (by omega)]; simp; omega
      · rw [List.eq_nil_of_length_eq_zero (by omega : l.length = 0)]; rfl

set_option maxHeartbeats 1000000 in
theorem packNameOk_any (l : List UInt8) (hl : l.length ≤ 9223372036854775807) (w : World) :
    Calls Tryd.prog 20 #[.string (mkB l)] w fun e w' => e = .returned (.bool (packOk l)) ∧ w = w' := by
  by_cases h0 : l.length = 0
  · obtain rfl := List.eq_nil_of_length_eq_zero h0
    go_enter Tryd.func20, Tryd.ntmps20
    go_wp2
    go_ret
    exact ⟨rfl, rfl⟩
  · have h0' : 0 < l.length := by omega
    have hemp : l.isEmpty = false := by
      cases l with
      | nil => simp at h0
      | cons => rfl
    by_cases h10 : 10 < l.length
    · have hbad := Lib.hid (packOk_long h10)
      rw [hbad.out]
      go_enter Tryd.func20, Tryd.ntmps20
      go_wp2
      go_ret
      exact ⟨rfl, rfl⟩
    · have h10' : l.length ≤ 10 := by omega
      have hhead : (low l[0] = true ∧ 97 ≤ (l[0].toNat : Int) ∧ (l[0].toNat : Int) ≤ 122) ∨ (low l[0] = false ∧ ((l[0].toNat : Int) < 97 ∨ 122 < (l[0].toNat : Int))) := by
        rcases cls l[0] with ⟨hc, hr⟩ | ⟨hc, hr1, hr2⟩ | ⟨hc, hr1, hr2⟩
        · right; exact ⟨hc.out.2, by omega⟩
        · left; exact ⟨hc.out.2, hr1, hr2⟩
        · right; exact ⟨hc.out.2, by omega⟩
      rcases hhead with ⟨hc, hr1, hr2⟩ | ⟨hc, hr⟩
      · have hc' := Lib.hid hc
        clear hc
        go_enter Tryd.func20, Tryd.ntmps20
        go_wp2
        go_loop [23] (fun i => ∃ k : Nat, k ≤ l.length ∧ i = .int .i64 k ∧ Hid ((l.take k).all lowDig = true)) (fun i => l.length - (intOf i).toNat)
        case atStart => exact ⟨0, Nat.zero_le _, rfl, Lib.hid rfl⟩
        case round =>
          obtain ⟨k, hk, rfl, ha⟩ := hrel
          by_cases hlt : k < l.length
          · rcases cls l[k] with ⟨hc, hr⟩ | ⟨hc, hr1, hr2⟩ | ⟨hc, hr1, hr2⟩
            · have hbad := Lib.hid (packOk_bad hlt hc.out.1)
              rcases hr with hr | ⟨hr, hr2⟩ | hr
              all_goals go_wp2
              all_goals go_ret
              all_goals exact ⟨ret_bool hbad.out.symm, rfl⟩
            all_goals go_wp2
            all_goals go_round
            case rel => exact ⟨k + 1, by omega, by go_num, Lib.hid (all_takeP hlt ha.out hc.out.1)⟩
            case measure => simp [intOf]; omega
            case rel => exact ⟨k + 1, by omega, by go_num, Lib.hid (all_takeP hlt ha.out hc.out.1)⟩
            case measure => simp [intOf]; omega
          · have hkl : k = l.length := by omega
            subst hkl
            have ha' := ha.out
            rw [List.take_length] at ha'
            have hgood := Lib.hid (packOk_good h0' hc'.out ha' h10')
            clear ha ha'
            go_wp2
            go_ret
            exact ⟨ret_bool hgood.out.symm, rfl⟩
      · have hbad := Lib.hid (packOk_head h0' hc)
        rw [hbad.out]
        rcases hr with hr | hr
        all_goals
          go_enter Tryd.func20, Tryd.ntmps20
          go_wp2
          go_ret
          exact ⟨rfl, rfl⟩

/-! ### NeedOk -/
def needV (nm : List UInt8) (kd : Int) (vr : List UInt8) : Value := .agg #[.string (mkB nm), .int .i64 kd, .string (mkB vr)]

set_option maxHeartbeats 2000000 in
theorem NeedOk_any (nm vr : List UInt8) (kd : Int) (hn : nm.length ≤ 140737488355328) (hv : vr.length ≤ 140737488355328) (w : World) :
    Calls Tryd.prog 11 #[.agg #[.string (mkB nm), .int .i64 kd, .string (mkB vr)]] w fun e w' => e = .returned (.bool (needOk nm kd vr)) ∧ Below w.heap.size w w' := by
  have hn' : nm.length ≤ 9223372036854775807 := by omega
  rcases boolOf (packOk nm) with hp | hp
  · rw [needOk_pack hp.out]
    go_enter Tryd.func11, Tryd.ntmps11
    go_wp2_with (go_at_call 20; refine (packNameOk_any _ hn' _).mono ?_; rintro e w' ⟨rfl, rfl⟩; rw [hp.out])
    go_ret
    exact ⟨rfl, (Below.refl _ _).alloc (Nat.le_refl _) _⟩
  · rcases kinds kd with rfl | ⟨h1, h3⟩ | hk
    · rw [needOk_any hp.out]
      go_enter Tryd.func11, Tryd.ntmps11
      go_wp2_with (go_at_call 20; refine (packNameOk_any _ hn' _).mono ?_; rintro e w' ⟨rfl, rfl⟩; rw [hp.out])
      go_ret
      refine ⟨ret_bool ?_, (Below.refl _ _).alloc (Nat.le_refl _) _⟩
      cases vr <;> rfl
    · rw [needOk_kind hp.out h1 h3]
      have h123 : kd = 1 ∨ kd = 2 ∨ kd = 3 := by omega
      clear h1 h3
      rcases h123 with rfl | rfl | rfl
      all_goals
        go_enter Tryd.func11, Tryd.ntmps11
        go_wp2_with (first
          | (go_at_call 20; refine (packNameOk_any _ hn' _).mono ?_; rintro e w' ⟨rfl, rfl⟩; rw [hp.out])
          | (go_at_call 21; refine (VersionOk_any _ hv _).mono ?_; rintro e w1 ⟨rfl, hB⟩))
        go_ret
        exact ⟨rfl, ((Below.refl _ _).alloc (Nat.le_refl _) _).trans (hB.mono (by simp))⟩
    · rw [needOk_else hk]
      have k0 : (kd == 0) = false := by rw [beq_eq_false_iff_ne]; omega
      have k1 : (kd == 1) = false := by rw [beq_eq_false_iff_ne]; omega
      have k2 : (kd == 2) = false := by rw [beq_eq_false_iff_ne]; omega
      have k3 : (kd == 3) = false := by rw [beq_eq_false_iff_ne]; omega
      clear hk
      go_enter Tryd.func11, Tryd.ntmps11
      go_wp2_with (go_at_call 20; refine (packNameOk_any _ hn' _).mono ?_; rintro e w' ⟨rfl, rfl⟩; rw [hp.out])
      go_ret
      exact ⟨rfl, (Below.refl _ _).alloc (Nat.le_refl _) _⟩

set_option maxHeartbeats 2000000 in
theorem specNeedOk_any (nm vr : List UInt8) (kd : Int) (hn : nm.length ≤ 1099511627776) (hv : vr.length ≤ 1099511627776) (w : World) :
    Calls Tryd.prog 12 #[.agg #[.string (mkB nm), .int .i64 kd, .string (mkB vr)]] w fun e w' => e = .returned (.bool (needOk nm kd vr)) ∧ Below w.heap.size w w' := by
  have hn' : nm.length ≤ 9223372036854775807 := by omega
  rcases boolOf (packOk nm) with hp | hp
  · rw [needOk_pack hp.out]
    go_enter Tryd.func12, Tryd.ntmps12
    go_wp2_with (go_at_call 22; refine (l3Pack_any _ hn' _).mono ?_; rintro e w' ⟨rfl, rfl⟩; rw [hp.out])
    go_ret
    exact ⟨rfl, (Below.refl _ _).alloc (Nat.le_refl _) _⟩
  · rcases kinds kd with rfl | ⟨h1, h3⟩ | hk
    · rw [needOk_any hp.out]
      have hin := Lib.hid (show inI 0 1 3 = false by rfl)
      rcases boolOf vr.isEmpty with he | he
      · have hee := he.out
        go_enter Tryd.func12, Tryd.ntmps12
        go_wp2_with (first
          | (go_at_call 22; refine (l3Pack_any _ hn' _).mono ?_; rintro e w' ⟨rfl, rfl⟩; rw [hp.out])
          | (go_at_call 23; refine (l1In_any _ _ _ _).mono ?_; rintro e w' ⟨rfl, rfl⟩; rw [hin.out]))
        go_ret
        exact ⟨ret_bool (by rw [he.out]), (Below.refl _ _).alloc (Nat.le_refl _) _⟩
      · have hee := he.out
        go_enter Tryd.func12, Tryd.ntmps12
        go_wp2_with (first
          | (go_at_call 22; refine (l3Pack_any _ hn' _).mono ?_; rintro e w' ⟨rfl, rfl⟩; rw [hp.out])
          | (go_at_call 23; refine (l1In_any _ _ _ _).mono ?_; rintro e w' ⟨rfl, rfl⟩; rw [hin.out]))
        go_ret
        exact ⟨ret_bool (by rw [he.out]), (Below.refl _ _).alloc (Nat.le_refl _) _⟩
    · rw [needOk_kind hp.out h1 h3]
      have hin := Lib.hid (show inI kd 1 3 = true by unfold inI; rw [decide_eq_true h1, decide_eq_true h3]; rfl)
      have k0 : (kd == 0) = false := by rw [beq_eq_false_iff_ne]; omega
      clear h1 h3
      go_enter Tryd.func12, Tryd.ntmps12
      go_wp2_with (first
        | (go_at_call 22; refine (l3Pack_any _ hn' _).mono ?_; rintro e w' ⟨rfl, rfl⟩; rw [hp.out])
        | (go_at_call 23; refine (l1In_any _ _ _ _).mono ?_; rintro e w' ⟨rfl, rfl⟩; rw [hin.out])
        | (go_at_call 24; refine (specVersionOk_any _ hv _).mono ?_; rintro e w1 ⟨rfl, hB⟩))
      go_ret
      exact ⟨rfl, ((Below.refl _ _).alloc (Nat.le_refl _) _).trans (hB.mono (by simp))⟩
    · rw [needOk_else hk]
      have hin := Lib.hid (show inI kd 1 3 = false by unfold inI; rcases hk with hk | hk <;> simp <;> omega)
      have k0 : (kd == 0) = false := by rw [beq_eq_false_iff_ne]; omega
      clear hk
      go_enter Tryd.func12, Tryd.ntmps12
      go_wp2_with (first
        | (go_at_call 22; refine (l3Pack_any _ hn' _).mono ?_; rintro e w' ⟨rfl, rfl⟩; rw [hp.out])
        | (go_at_call 23; refine (l1In_any _ _ _ _).mono ?_; rintro e w' ⟨rfl, rfl⟩; rw [hin.out]))
      go_ret
      exact ⟨rfl, (Below.refl _ _).alloc (Nat.le_refl _) _⟩

end Go.Proofs.YtdcfifhmldolhaaDoor
