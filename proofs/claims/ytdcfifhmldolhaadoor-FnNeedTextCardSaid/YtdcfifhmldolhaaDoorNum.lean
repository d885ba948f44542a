/-
  The walks of number and l1Num: both read the numbers of versions.
-/
import Derived.Test.YtdcfifhmldolhaaDoorCut
import Derived.Test.YtdcfifhmldolhaaDoorPlainV
namespace Go.Proofs.YtdcfifhmldolhaaDoor
open Go.RowKit
set_option linter.unusedVariables false
attribute [local go_sem] mkB_size mkB_extract mkB_get mkB_toList

theorem ret_pair {a b : Int} {c d : Bool} (h : a = b) (k : c = d) : Ending.returned (.tuple #[.int .i64 a, .bool c]) = .returned (.tuple #[.int .i64 b, .bool d]) := by rw [h, k]
def numPair (l : List UInt8) : Int × Bool := match verNum l with
  | some n => ((n : Int), true)
  | none => (0, false)
theorem numPair_none {l : List UInt8} (h : verNum l = none) : numPair l = (0, false) := by unfold numPair; rw [h]
theorem numPair_some {l : List UInt8} {n : Nat} (h : verNum l = some n) : numPair l = ((n : Int), true) := by unfold numPair; rw [h]
theorem digit_iff {c : UInt8} : digit c = true ↔ 48 ≤ c.toNat ∧ c.toNat ≤ 57 := by unfold digit; simp
theorem isNum_bad {l : List UInt8} {k : Nat} (hk : k < l.length) (h : digit l[k] = false) : isNum l = false := by
  unfold isNum
  have : l.all digit = false := by rw [List.all_eq_false]; exact ⟨l[k], List.getElem_mem hk, by simp [h]⟩
  rw [this]; simp
theorem isNum_zero {r : List UInt8} (h : r ≠ []) : isNum (48 :: r) = false := by
  unfold isNum
  cases r with
  | nil => exact absurd rfl h
  | cons => simp
theorem isNum_good {c : UInt8} {r : List UInt8} (hd : (c :: r).all digit = true) (h : r = [] ∨ c ≠ 48) : isNum (c :: r) = true := by
  unfold isNum
  rw [hd]
  rcases h with rfl | h
  · simp
  · simp [h]
theorem takeL_snoc {l : List UInt8} {k : Nat} (h : k < l.length) : l.take (k + 1) = l.take k ++ [l[k]] := by rw [List.take_succ_eq_append_getElem h]
theorem all_takeL {l : List UInt8} {k : Nat} (h : k < l.length) (ha : (l.take k).all digit = true) (hd : digit l[k] = true) : (l.take (k + 1)).all digit = true := by
  rw [takeL_snoc h, List.all_append, ha]; simp [hd]

set_option maxHeartbeats 2000000 in
theorem number_any (l : List UInt8) (hl : l.length ≤ 9223372036854775807) (w : World) :
    Calls Tryd.prog 44 #[.string (mkB l), .int .i64 999] w fun e w' => e = .returned (.tuple #[.int .i64 (numPair l).1, .bool (numPair l).2]) ∧ w = w' := by
  cases l with
  | nil =>
    go_enter Tryd.func44, Tryd.ntmps44
    go_wp2
    go_ret2
    exact ⟨rfl, rfl⟩
  | cons c r =>
    by_cases h9 : 9 < r.length + 1
    · rw [numPair_none (verNum_long (by simp; omega))]
      simp only [List.length_cons] at hl
      go_enter Tryd.func44, Tryd.ntmps44
      go_wp2
      go_ret2
      exact ⟨rfl, rfl⟩
    · clear hl
      by_cases hz : r ≠ [] ∧ c = 48
      · obtain ⟨hr, rfl⟩ := hz
        rw [numPair_none (verNum_not (isNum_zero hr))]
        have hr1 : 1 < r.length + 1 := by
          cases r with
          | nil => exact absurd rfl hr
          | cons => simp
        replace hr := Lib.hid hr
        go_enter Tryd.func44, Tryd.ntmps44
        go_wp2
        go_ret2
        exact ⟨rfl, rfl⟩
      · have hz' : r = [] ∨ c ≠ 48 := by
          by_cases hr : r = []
          · exact .inl hr
          · exact .inr (fun e => hz ⟨hr, e⟩)
        clear hz
        obtain ⟨l, hle⟩ : ∃ l, c :: r = l := ⟨_, rfl⟩
        have hlen : l.length = r.length + 1 := by rw [← hle]; simp
        have hl1 : 0 < l.length := by omega
        have hguard : (l.length ≤ 1 ∧ True) ∨ (1 < l.length ∧ ((l[0].toNat : Int) == 48) = false) := by
          subst hle
          rcases hz' with rfl | h
          · left; simp
          · by_cases h1 : 1 < (c :: r).length
            · exact .inr ⟨h1, u8_ne h⟩
            · exact .inl ⟨by omega, trivial⟩
        have hl9 : l.length ≤ 9 := by omega
        have hemp : l.isEmpty = false := by rw [← hle]; rfl
        have hgood : l.all digit = true → isNum l = true := fun hd => by rw [← hle] at hd ⊢; exact isNum_good hd hz'
        rw [hle]
        replace hgood := Lib.hid hgood
        clear hle hlen hz' h9
        rcases hguard with ⟨hgd, hgd2⟩ | ⟨hgd, hgd2⟩
        all_goals
          go_enter Tryd.func44, Tryd.ntmps44
          go_wp2
          go_loop [6, 27] (fun n i => ∃ k m : Nat, k ≤ l.length ∧ m < 1000000000 ∧ i = .int .i64 k ∧ n = .int .i64 m ∧ Hid (valL (l.take k) = m) ∧ Hid ((l.take k).all digit = true)) (fun _ i => l.length - (intOf i).toNat)
          case atStart => exact ⟨0, 0, Nat.zero_le _, by omega, rfl, rfl, Lib.hid rfl, Lib.hid rfl⟩
          case round =>
            obtain ⟨k, m, hk, hm, rfl, rfl, hv, hd⟩ := hrel
            by_cases hlt : k < l.length
            · rcases boolOf (digit l[k]) with hb | hb
              · have hnone := Lib.hid (numPair_none (verNum_not (isNum_bad hlt hb.out)))
                have hb' : ¬ (48 ≤ (l[k].toNat : Int) ∧ (l[k].toNat : Int) ≤ 57) := by
                  intro hc
                  have := digit_iff.2 (show 48 ≤ l[k].toNat ∧ l[k].toNat ≤ 57 by omega)
                  rw [hb.out] at this; cases this
                by_cases h48 : (l[k].toNat : Int) < 48
                · clear hb'
                  go_wp2
                  go_ret2
                  exact ⟨by rw [hnone.out]; rfl, rfl⟩
                · have h57 : 57 < (l[k].toNat : Int) := by omega
                  clear hb'
                  go_wp2
                  go_ret2
                  exact ⟨by rw [hnone.out]; rfl, rfl⟩
              · have hd1 : 48 ≤ (l[k].toNat : Int) := by have := (digit_iff.1 hb.out).1; omega
                have hd2 : (l[k].toNat : Int) ≤ 57 := by have := (digit_iff.1 hb.out).2; omega
                go_wp2
                go_round
                case rel =>
                  have hda := all_takeL hlt hd.out hb.out
                  have hv1 : valL (l.take (k + 1)) = m * 10 + (l[k].toNat - 48) := by rw [takeL_snoc hlt, valL_snoc, hv.out]
                  have hv2 := valL_lt _ hda
                  have hv3 : 10 ^ (l.take (k + 1)).length ≤ 10 ^ 9 := Nat.pow_le_pow_right (by omega) (by simp; omega)
                  refine ⟨k + 1, m * 10 + (l[k].toNat - 48), by omega, by omega, by go_num, int_eq (by omega), Lib.hid hv1, Lib.hid hda⟩
                case measure => simp [intOf]; omega
            · have hkl : k = l.length := by omega
              subst hkl
              have hv' := hv.out
              have hd' := hd.out
              rw [List.take_length] at hv' hd'
              by_cases h999 : m ≤ 999
              · have hs := Lib.hid (numPair_some (n := m) (by rw [verNum_is (hgood.out hd') (by omega), hv']))
                clear hv' hd' hv hd
                go_wp2
                go_ret2
                exact ⟨by rw [hs.out]; rfl, rfl⟩
              · have hs := Lib.hid (numPair_none (verNum_big (l := l) (by omega)))
                clear hv' hd' hv hd
                go_wp2
                go_ret2
                exact ⟨by rw [hs.out]; rfl, rfl⟩

def numI (l : List UInt8) : Int := if isNum l = true ∧ l.length ≤ 6 then (valL l : Int) else -1
theorem numI_not {l : List UInt8} (h : isNum l = false) : numI l = -1 := by unfold numI; rw [if_neg]; rintro ⟨h1, _⟩; rw [h] at h1; cases h1
theorem numI_long {l : List UInt8} (h : 6 < l.length) : numI l = -1 := by unfold numI; rw [if_neg]; rintro ⟨_, h1⟩; omega
theorem numI_is {l : List UInt8} {n : Nat} (h : isNum l = true) (h6 : l.length ≤ 6) (hn : valL l = n) : numI l = n := by unfold numI; rw [if_pos ⟨h, h6⟩, hn]
theorem isNum_nil : isNum [] = false := rfl
theorem isNum_head {l : List UInt8} (h0 : 0 < l.length) (h1 : 1 < l.length) (h : l[0] = 48) : isNum l = false := by
  cases l with
  | nil => simp at h0
  | cons c r =>
    simp at h
    subst h
    refine isNum_zero ?_
    rintro rfl
    simp at h1
theorem isNum_good' {l : List UInt8} (h0 : 0 < l.length) (hd : l.all digit = true) (h : l.length ≤ 1 ∨ l[0] ≠ 48) : isNum l = true := by
  cases l with
  | nil => simp at h0
  | cons c r =>
    refine isNum_good hd ?_
    rcases h with h | h
    · simp at h; exact .inl h
    · simp at h; exact .inr h

set_option maxHeartbeats 1000000 in
theorem l1Num_any (l : List UInt8) (hl : l.length ≤ 9223372036854775807) (w : World) :
    Calls Tryd.prog 46 #[.string (mkB l)] w fun e w' => e = .returned (.int .i64 (numI l)) ∧ w = w' := by
  go_enter Tryd.func46, Tryd.ntmps46
  go_wp2
  go_loop [3, 4] (fun n i => ∃ k m : Nat, k ≤ l.length ∧ k ≤ 6 ∧ m < 1000000 ∧ i = .int .i64 k ∧ n = .int .i64 m ∧ Hid (valL (l.take k) = m) ∧ Hid ((l.take k).all digit = true)) (fun _ i => l.length - (intOf i).toNat)
  case atStart => exact ⟨0, 0, Nat.zero_le _, by omega, by omega, rfl, rfl, Lib.hid rfl, Lib.hid rfl⟩
  case round =>
    obtain ⟨k, m, hk, hk6, hm, rfl, rfl, hv, hd⟩ := hrel
    by_cases hlt : k < l.length
    · rcases boolOf (digit l[k]) with hb | hb
      · have hnone := Lib.hid (numI_not (isNum_bad hlt hb.out))
        have hb' : ¬ (48 ≤ (l[k].toNat : Int) ∧ (l[k].toNat : Int) ≤ 57) := by
          intro hc
          have := digit_iff.2 (show 48 ≤ l[k].toNat ∧ l[k].toNat ≤ 57 by omega)
          rw [hb.out] at this; cases this
        by_cases h48 : (l[k].toNat : Int) < 48
        · clear hb'
          go_wp2
          go_ret
          exact ⟨ret_int (by rw [hnone.out]), rfl⟩
        · have h57 : 57 < (l[k].toNat : Int) := by omega
          clear hb'
          go_wp2
          go_ret
          exact ⟨ret_int (by rw [hnone.out]), rfl⟩
      · have hd1 : 48 ≤ (l[k].toNat : Int) := by have := (digit_iff.1 hb.out).1; omega
        have hd2 : (l[k].toNat : Int) ≤ 57 := by have := (digit_iff.1 hb.out).2; omega
        by_cases h6 : k < 6
        · go_wp2
          go_round
          case rel =>
            have hda := all_takeL hlt hd.out hb.out
            have hv1 : valL (l.take (k + 1)) = m * 10 + (l[k].toNat - 48) := by rw [takeL_snoc hlt, valL_snoc, hv.out]
            have hv2 := valL_lt _ hda
            have hv3 : 10 ^ (l.take (k + 1)).length ≤ 10 ^ 6 := Nat.pow_le_pow_right (by omega) (by simp; omega)
            refine ⟨k + 1, m * 10 + (l[k].toNat - 48), by omega, by omega, by omega, by go_num, int_eq (by omega), Lib.hid hv1, Lib.hid hda⟩
          case measure => simp [intOf]; omega
        · have hnone := Lib.hid (numI_long (l := l) (by omega))
          go_wp2
          go_ret
          exact ⟨ret_int (by rw [hnone.out]), rfl⟩
    · have hkl : k = l.length := by omega
      subst hkl
      have hv' := hv.out
      have hd' := hd.out
      rw [List.take_length] at hv' hd'
      clear hv hd
      by_cases h0 : l.length = 0
      · have hs := Lib.hid (numI_not (l := l) (by rw [List.eq_nil_of_length_eq_zero h0]; rfl))
        clear hv' hd'
        go_wp2
        go_ret
        exact ⟨ret_int (by rw [hs.out]), rfl⟩
      · have h0' : 0 < l.length := by omega
        by_cases h1 : 1 < l.length
        · by_cases hz : l[0] = 48
          · have hs := Lib.hid (numI_not (isNum_head h0' h1 hz))
            have hz' : ((l[0].toNat : Int) == 48) = true := u8_is hz
            clear hv' hd' hz
            go_wp2
            go_ret
            exact ⟨ret_int (by rw [hs.out]), rfl⟩
          · have hs := Lib.hid (numI_is (isNum_good' h0' hd' (.inr hz)) (by omega) hv')
            have hz' : ((l[0].toNat : Int) == 48) = false := u8_ne hz
            clear hv' hd' hz
            go_wp2
            go_ret
            exact ⟨ret_int (by rw [hs.out]), rfl⟩
        · have hs := Lib.hid (numI_is (isNum_good' h0' hd' (.inl (by omega))) (by omega) hv')
          clear hv' hd'
          go_wp2
          go_ret
          exact ⟨ret_int (by rw [hs.out]), rfl⟩

end Go.Proofs.YtdcfifhmldolhaaDoor
