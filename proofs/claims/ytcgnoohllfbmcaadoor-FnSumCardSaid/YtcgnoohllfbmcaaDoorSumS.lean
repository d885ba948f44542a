/-
  The walks of the reference's l2Padded and l2Words.
-/
import Derived.Test.YtcgnoohllfbmcaaDoorSumJ
namespace Go.Proofs.YtcgnoohllfbmcaaDoor
open Go.RowKit
set_option linter.unusedVariables false
set_option linter.unusedSimpArgs false
attribute [local go_sem] mkB_size

/-- a slice that was made: a row of its own -/
def ResV (e : TypeId) (xs : List Value) (w : World) (r : Ending) (w' : World) : Prop := ∃ g cap, r = .returned (.slice (some ⟨g, 0, none⟩) xs.length cap) ∧ RowV w' e w.heap.size g cap xs ∧ Below w.heap.size w w'
set_option maxRecDepth 1000000 in
set_option maxHeartbeats 16000000 in
theorem l2Padded_any (l : List UInt8) (hl : l.length ≤ 1048576) (w : World) :
    Calls Tryd.prog 17 #[.string (mkB l)] w (ResV 5 ((padded l).map bV) w) := by
  have hconv := fun w' : World => run_bytes_of_string (P := Tryd.prog) w' 9 24 5 (mkB l) Tryd.underlying9 Tryd.underlying24 Tryd.underlying5
  obtain ⟨i0, hi0, hz0, hz1, hz2⟩ := info_parts infoByte
  go_enter Tryd.func17, Tryd.ntmps17
  go_wp2_with (at_builtin; refine wp_here ?_)
  refine Lib.hid ?_
  refine wpList_first rfl _ _ 24 rfl _ 5 i0 (.int .u8 0) 1 Tryd.underlying24 hi0 hz0 hz1 hz2 rfl l hl _ rfl l.length rfl ?hs 1 1 [.int .u8 128] _ rfl rfl ?hx ?h1 ?h63 ?hb ?hk
  case hs => first | rfl | (show Value.slice _ _ _ = Value.slice _ _ _; simp)
  case hx => first | rfl | (show Value.slice _ _ _ = Value.slice _ _ _; simp)
  case h1 => intro u hu; simp at hu; subst hu; rfl
  case h63 => decide
  case hb => decide
  intro g cap w1 hrow hC
  replace hrow : RowV w1 5 w.heap.size g cap (padV l 0) := by simpa [padV] using hrow
  clear hconv
  replace hrow := Lib.hid hrow
  go_wp2
  go_loopw [3] (fun dv wr => ∃ j g cap, j ≤ padN l.length ∧ dv = .slice (some ⟨g, 0, none⟩) (l.length + 1 + j) cap ∧ Hid (RowV wr 5 w.heap.size g cap (padV l j)) ∧ Below w.heap.size w wr) (fun dv _ => match dv with | .slice _ n _ => l.length + 1 + 63 - n | _ => 0)
  case atStart => exact ⟨0, g, cap, by omega, rfl, hrow, hC⟩
  case round =>
    clear hrow hC
    obtain ⟨j, g, cap, hj, rfl, hrow, hC⟩ := hrel
    have hp63 := padN_le l.length
    by_cases hlt : j < padN l.length
    · have hne := pad_more hlt
      have hxl := padV_len l j
      obtain ⟨n, hn⟩ : ∃ n, l.length + 1 + j = n := ⟨_, rfl⟩
      rw [hn] at hne hxl ⊢
      have hn2 : l.length + 1 + (j + 1) = n + 1 := by omega
      have hnm : n ≤ 1048576 + 64 := by omega
      obtain ⟨r, hr⟩ : ∃ r, n % 64 = r := ⟨_, rfl⟩
      rw [hr] at hne
      have hmod : (n : Int).tmod 64 = (r : Int) := by have := Int.tmod_eq_emod_of_nonneg (a := (n : Int)) (b := 64) (by omega); omega
      have hmod2 : (n : Int) % 64 = (r : Int) := by omega
      have hrI : ¬ (r : Int) = 56 := by omega
      have hnI : (n : Int) ≤ 1048640 := by omega
      replace hn := Lib.hid hn
      replace hr := Lib.hid hr
      replace hn2 := Lib.hid hn2
      go_wp2_with (at_builtin; refine wp_here ?_)
      refine Lib.hid ?_
      refine wpList_push1 rfl _ _ 24 rfl _ 5 i0 (.int .u8 0) 1 Tryd.underlying24 hi0 hz0 hz1 hz2 rfl w.heap.size _ _ _ hrow.out _ (hxl).symm rfl 1 1 [.int .u8 0] _ rfl rfl rfl ?h1_1 ?h63_1 ?hb_1 ?hlo_1 ?hk_1
      case h1_1 => intro u hu; simp only [List.mem_singleton] at hu; subst hu; rfl
      case h63_1 => rw [hxl]; simp only [List.length_singleton]; omega
      case hb_1 => decide
      case hlo_1 => exact hC.size
      intro g2 cap2 w2 hrow2 hB2
      rw [hxl]
      have hC2 := hC.trans (hB2 w.heap.size (Nat.le_refl _) hC.size)
      rw [padV_succ] at hrow2
      replace hrow2 := Lib.hid hrow2
      clear hC hrow hB2 hmod hmod2
      go_wp2
      go_round
      case rel => exact ⟨j + 1, g2, cap2, by omega, by rw [hn2.out], hrow2, hC2⟩
      case measure => show _ - (n + 1) < _ - n; have := hn.out; omega
    · obtain rfl : j = padN l.length := by omega
      have hxl0 := padV_len l (padN l.length)
      have hend := padN_end l.length
      obtain ⟨n, hn⟩ : ∃ n, l.length + 1 + padN l.length = n := ⟨_, rfl⟩
      rw [hn] at hend hxl0 ⊢
      have hnm : n ≤ 1048576 + 64 := by omega
      have hmod : (n : Int).tmod 64 = 56 := by have := Int.tmod_eq_emod_of_nonneg (a := (n : Int)) (b := 64) (by omega); omega
      have hmod2 : (n : Int) % 64 = 56 := by omega
      have hnI : (n : Int) ≤ 1048640 := by omega
      have hlI : (l.length : Int) ≤ 1048576 := by omega
      replace hn := Lib.hid hn
      replace hend := Lib.hid hend
      go_wp2
      go_loopw [3, 5] (fun dv sv wr => ∃ m g cap, m ≤ 8 ∧ sv = .int .i64 (7 - (m : Nat) : Int) ∧ dv = .slice (some ⟨g, 0, none⟩) (n + m) cap ∧ Hid (RowV wr 5 w.heap.size g cap (padV l (padN l.length) ++ ((lenB l.length).map bV).take m)) ∧ Below w.heap.size w wr) (fun dv _ _ => match dv with | .slice _ k _ => n + 8 - k | _ => 0)
      case atStart => exact ⟨0, g, cap, by omega, rfl, rfl, by simpa using hrow, hC⟩
      case round =>
        clear hrow hC hmod hmod2
        obtain ⟨m, g, cap, hm8, hsv, rfl, hrow, hC⟩ := hrel
        have hcs : m = 0 ∨ m = 1 ∨ m = 2 ∨ m = 3 ∨ m = 4 ∨ m = 5 ∨ m = 6 ∨ m = 7 ∨ m = 8 := by omega
        rcases hcs with rfl | rfl | rfl | rfl | rfl | rfl | rfl | rfl | rfl
        · obtain rfl : _ = Value.int .i64 7 := hsv
          have hxl : (padV l (padN l.length) ++ ((lenB l.length).map bV).take 0).length = n + 0 := by rw [List.length_append, hxl0, List.length_take]; simp [lenB_len]
          have hv : ((l.length : Int) * 8 / 72057594037927936 % 256) = ((UInt8.ofNat (l.length * 8 / 2 ^ 56)).toNat : Int) := by have := byte_shr (l.length * 8) 56; simp at this ⊢; try exact this
          have hv2 : ((l.length : Int) * 8 / 72057594037927936) = ((UInt8.ofNat (l.length * 8 / 2 ^ 56)).toNat : Int) := by rw [← hv]; omega
          obtain ⟨v, hve⟩ : ∃ v, UInt8.ofNat (l.length * 8 / 2 ^ 56) = v := ⟨_, rfl⟩
          rw [hve] at hv hv2
          have hsn : ((lenB l.length).map bV).take 0 ++ [.int .u8 (v.toNat : Int)] = ((lenB l.length).map bV).take 1 := by rw [← hve]; exact takeV_snoc rfl
          clear hve
          replace hsn := Lib.hid hsn
          go_wp2_with (at_builtin; refine wp_here ?_)
          refine Lib.hid ?_
          refine wpList_push1 rfl _ _ 24 rfl _ 5 i0 (.int .u8 0) 1 Tryd.underlying24 hi0 hz0 hz1 hz2 rfl w.heap.size _ _ _ hrow.out _ (hxl).symm rfl 1 1 [.int .u8 (v.toNat : Int)] _ rfl rfl rfl ?h1_2 ?h63_2 ?hb_2 ?hlo_2 ?hk_2
          case h1_2 => intro u hu; simp only [List.mem_singleton] at hu; subst hu; rfl
          case h63_2 => rw [hxl]; simp only [List.length_singleton]; omega
          case hb_2 => decide
          case hlo_2 => exact hC.size
          intro g2 cap2 w2 hrow2 hB2
          rw [hxl]
          have hC2 := hC.trans (hB2 w.heap.size (Nat.le_refl _) hC.size)
          rw [List.append_assoc, hsn.out] at hrow2
          replace hrow2 := Lib.hid hrow2
          clear hC hrow hB2 hv
          go_wp2
          go_round
          case rel => exact ⟨1, g2, cap2, by omega, rfl, rfl, hrow2, hC2⟩
          case measure => show _ - (n + 0 + 1) < _ - (n + 0); omega
        · obtain rfl : _ = Value.int .i64 6 := hsv
          have hxl : (padV l (padN l.length) ++ ((lenB l.length).map bV).take 1).length = n + 1 := by rw [List.length_append, hxl0, List.length_take]; simp [lenB_len]
          have hv : ((l.length : Int) * 8 / 281474976710656 % 256) = ((UInt8.ofNat (l.length * 8 / 2 ^ 48)).toNat : Int) := by have := byte_shr (l.length * 8) 48; simp at this ⊢; try exact this
          have hv2 : ((l.length : Int) * 8 / 281474976710656) = ((UInt8.ofNat (l.length * 8 / 2 ^ 48)).toNat : Int) := by rw [← hv]; omega
          obtain ⟨v, hve⟩ : ∃ v, UInt8.ofNat (l.length * 8 / 2 ^ 48) = v := ⟨_, rfl⟩
          rw [hve] at hv hv2
          have hsn : ((lenB l.length).map bV).take 1 ++ [.int .u8 (v.toNat : Int)] = ((lenB l.length).map bV).take 2 := by rw [← hve]; exact takeV_snoc rfl
          clear hve
          replace hsn := Lib.hid hsn
          go_wp2_with (at_builtin; refine wp_here ?_)
          refine Lib.hid ?_
          refine wpList_push1 rfl _ _ 24 rfl _ 5 i0 (.int .u8 0) 1 Tryd.underlying24 hi0 hz0 hz1 hz2 rfl w.heap.size _ _ _ hrow.out _ (hxl).symm rfl 1 1 [.int .u8 (v.toNat : Int)] _ rfl rfl rfl ?h1_3 ?h63_3 ?hb_3 ?hlo_3 ?hk_3
          case h1_3 => intro u hu; simp only [List.mem_singleton] at hu; subst hu; rfl
          case h63_3 => rw [hxl]; simp only [List.length_singleton]; omega
          case hb_3 => decide
          case hlo_3 => exact hC.size
          intro g2 cap2 w2 hrow2 hB2
          rw [hxl]
          have hC2 := hC.trans (hB2 w.heap.size (Nat.le_refl _) hC.size)
          rw [List.append_assoc, hsn.out] at hrow2
          replace hrow2 := Lib.hid hrow2
          clear hC hrow hB2 hv
          go_wp2
          go_round
          case rel => exact ⟨2, g2, cap2, by omega, rfl, rfl, hrow2, hC2⟩
          case measure => show _ - (n + 1 + 1) < _ - (n + 1); omega
        · obtain rfl : _ = Value.int .i64 5 := hsv
          have hxl : (padV l (padN l.length) ++ ((lenB l.length).map bV).take 2).length = n + 2 := by rw [List.length_append, hxl0, List.length_take]; simp [lenB_len]
          have hv : ((l.length : Int) * 8 / 1099511627776 % 256) = ((UInt8.ofNat (l.length * 8 / 2 ^ 40)).toNat : Int) := by have := byte_shr (l.length * 8) 40; simp at this ⊢; try exact this
          have hv2 : ((l.length : Int) * 8 / 1099511627776) = ((UInt8.ofNat (l.length * 8 / 2 ^ 40)).toNat : Int) := by rw [← hv]; omega
          obtain ⟨v, hve⟩ : ∃ v, UInt8.ofNat (l.length * 8 / 2 ^ 40) = v := ⟨_, rfl⟩
          rw [hve] at hv hv2
          have hsn : ((lenB l.length).map bV).take 2 ++ [.int .u8 (v.toNat : Int)] = ((lenB l.length).map bV).take 3 := by rw [← hve]; exact takeV_snoc rfl
          clear hve
          replace hsn := Lib.hid hsn
          go_wp2_with (at_builtin; refine wp_here ?_)
          refine Lib.hid ?_
          refine wpList_push1 rfl _ _ 24 rfl _ 5 i0 (.int .u8 0) 1 Tryd.underlying24 hi0 hz0 hz1 hz2 rfl w.heap.size _ _ _ hrow.out _ (hxl).symm rfl 1 1 [.int .u8 (v.toNat : Int)] _ rfl rfl rfl ?h1_4 ?h63_4 ?hb_4 ?hlo_4 ?hk_4
          case h1_4 => intro u hu; simp only [List.mem_singleton] at hu; subst hu; rfl
          case h63_4 => rw [hxl]; simp only [List.length_singleton]; omega
          case hb_4 => decide
          case hlo_4 => exact hC.size
          intro g2 cap2 w2 hrow2 hB2
          rw [hxl]
          have hC2 := hC.trans (hB2 w.heap.size (Nat.le_refl _) hC.size)
          rw [List.append_assoc, hsn.out] at hrow2
          replace hrow2 := Lib.hid hrow2
          clear hC hrow hB2 hv
          go_wp2
          go_round
          case rel => exact ⟨3, g2, cap2, by omega, rfl, rfl, hrow2, hC2⟩
          case measure => show _ - (n + 2 + 1) < _ - (n + 2); omega
        · obtain rfl : _ = Value.int .i64 4 := hsv
          have hxl : (padV l (padN l.length) ++ ((lenB l.length).map bV).take 3).length = n + 3 := by rw [List.length_append, hxl0, List.length_take]; simp [lenB_len]
          have hv : ((l.length : Int) * 8 / 4294967296 % 256) = ((UInt8.ofNat (l.length * 8 / 2 ^ 32)).toNat : Int) := by have := byte_shr (l.length * 8) 32; simp at this ⊢; try exact this
          have hv2 : ((l.length : Int) * 8 / 4294967296) = ((UInt8.ofNat (l.length * 8 / 2 ^ 32)).toNat : Int) := by rw [← hv]; omega
          obtain ⟨v, hve⟩ : ∃ v, UInt8.ofNat (l.length * 8 / 2 ^ 32) = v := ⟨_, rfl⟩
          rw [hve] at hv hv2
          have hsn : ((lenB l.length).map bV).take 3 ++ [.int .u8 (v.toNat : Int)] = ((lenB l.length).map bV).take 4 := by rw [← hve]; exact takeV_snoc rfl
          clear hve
          replace hsn := Lib.hid hsn
          go_wp2_with (at_builtin; refine wp_here ?_)
          refine Lib.hid ?_
          refine wpList_push1 rfl _ _ 24 rfl _ 5 i0 (.int .u8 0) 1 Tryd.underlying24 hi0 hz0 hz1 hz2 rfl w.heap.size _ _ _ hrow.out _ (hxl).symm rfl 1 1 [.int .u8 (v.toNat : Int)] _ rfl rfl rfl ?h1_5 ?h63_5 ?hb_5 ?hlo_5 ?hk_5
          case h1_5 => intro u hu; simp only [List.mem_singleton] at hu; subst hu; rfl
          case h63_5 => rw [hxl]; simp only [List.length_singleton]; omega
          case hb_5 => decide
          case hlo_5 => exact hC.size
          intro g2 cap2 w2 hrow2 hB2
          rw [hxl]
          have hC2 := hC.trans (hB2 w.heap.size (Nat.le_refl _) hC.size)
          rw [List.append_assoc, hsn.out] at hrow2
          replace hrow2 := Lib.hid hrow2
          clear hC hrow hB2 hv
          go_wp2
          go_round
          case rel => exact ⟨4, g2, cap2, by omega, rfl, rfl, hrow2, hC2⟩
          case measure => show _ - (n + 3 + 1) < _ - (n + 3); omega
        · obtain rfl : _ = Value.int .i64 3 := hsv
          have hxl : (padV l (padN l.length) ++ ((lenB l.length).map bV).take 4).length = n + 4 := by rw [List.length_append, hxl0, List.length_take]; simp [lenB_len]
          have hv : ((l.length : Int) * 8 / 16777216 % 256) = ((UInt8.ofNat (l.length * 8 / 2 ^ 24)).toNat : Int) := by have := byte_shr (l.length * 8) 24; simp at this ⊢; try exact this
          have hv2 : ((l.length : Int) * 8 / 16777216) = ((UInt8.ofNat (l.length * 8 / 2 ^ 24)).toNat : Int) := by rw [← hv]; omega
          obtain ⟨v, hve⟩ : ∃ v, UInt8.ofNat (l.length * 8 / 2 ^ 24) = v := ⟨_, rfl⟩
          rw [hve] at hv hv2
          have hsn : ((lenB l.length).map bV).take 4 ++ [.int .u8 (v.toNat : Int)] = ((lenB l.length).map bV).take 5 := by rw [← hve]; exact takeV_snoc rfl
          clear hve
          replace hsn := Lib.hid hsn
          go_wp2_with (at_builtin; refine wp_here ?_)
          refine Lib.hid ?_
          refine wpList_push1 rfl _ _ 24 rfl _ 5 i0 (.int .u8 0) 1 Tryd.underlying24 hi0 hz0 hz1 hz2 rfl w.heap.size _ _ _ hrow.out _ (hxl).symm rfl 1 1 [.int .u8 (v.toNat : Int)] _ rfl rfl rfl ?h1_6 ?h63_6 ?hb_6 ?hlo_6 ?hk_6
          case h1_6 => intro u hu; simp only [List.mem_singleton] at hu; subst hu; rfl
          case h63_6 => rw [hxl]; simp only [List.length_singleton]; omega
          case hb_6 => decide
          case hlo_6 => exact hC.size
          intro g2 cap2 w2 hrow2 hB2
          rw [hxl]
          have hC2 := hC.trans (hB2 w.heap.size (Nat.le_refl _) hC.size)
          rw [List.append_assoc, hsn.out] at hrow2
          replace hrow2 := Lib.hid hrow2
          clear hC hrow hB2 hv
          go_wp2
          go_round
          case rel => exact ⟨5, g2, cap2, by omega, rfl, rfl, hrow2, hC2⟩
          case measure => show _ - (n + 4 + 1) < _ - (n + 4); omega
        · obtain rfl : _ = Value.int .i64 2 := hsv
          have hxl : (padV l (padN l.length) ++ ((lenB l.length).map bV).take 5).length = n + 5 := by rw [List.length_append, hxl0, List.length_take]; simp [lenB_len]
          have hv : ((l.length : Int) * 8 / 65536 % 256) = ((UInt8.ofNat (l.length * 8 / 2 ^ 16)).toNat : Int) := by have := byte_shr (l.length * 8) 16; simp at this ⊢; try exact this
          have hv2 : ((l.length : Int) * 8 / 65536) = ((UInt8.ofNat (l.length * 8 / 2 ^ 16)).toNat : Int) := by rw [← hv]; omega
          obtain ⟨v, hve⟩ : ∃ v, UInt8.ofNat (l.length * 8 / 2 ^ 16) = v := ⟨_, rfl⟩
          rw [hve] at hv hv2
          have hsn : ((lenB l.length).map bV).take 5 ++ [.int .u8 (v.toNat : Int)] = ((lenB l.length).map bV).take 6 := by rw [← hve]; exact takeV_snoc rfl
          clear hve
          replace hsn := Lib.hid hsn
          go_wp2_with (at_builtin; refine wp_here ?_)
          refine Lib.hid ?_
          refine wpList_push1 rfl _ _ 24 rfl _ 5 i0 (.int .u8 0) 1 Tryd.underlying24 hi0 hz0 hz1 hz2 rfl w.heap.size _ _ _ hrow.out _ (hxl).symm rfl 1 1 [.int .u8 (v.toNat : Int)] _ rfl rfl rfl ?h1_7 ?h63_7 ?hb_7 ?hlo_7 ?hk_7
          case h1_7 => intro u hu; simp only [List.mem_singleton] at hu; subst hu; rfl
          case h63_7 => rw [hxl]; simp only [List.length_singleton]; omega
          case hb_7 => decide
          case hlo_7 => exact hC.size
          intro g2 cap2 w2 hrow2 hB2
          rw [hxl]
          have hC2 := hC.trans (hB2 w.heap.size (Nat.le_refl _) hC.size)
          rw [List.append_assoc, hsn.out] at hrow2
          replace hrow2 := Lib.hid hrow2
          clear hC hrow hB2 hv
          go_wp2
          go_round
          case rel => exact ⟨6, g2, cap2, by omega, rfl, rfl, hrow2, hC2⟩
          case measure => show _ - (n + 5 + 1) < _ - (n + 5); omega
        · obtain rfl : _ = Value.int .i64 1 := hsv
          have hxl : (padV l (padN l.length) ++ ((lenB l.length).map bV).take 6).length = n + 6 := by rw [List.length_append, hxl0, List.length_take]; simp [lenB_len]
          have hv : ((l.length : Int) * 8 / 256 % 256) = ((UInt8.ofNat (l.length * 8 / 2 ^ 8)).toNat : Int) := by have := byte_shr (l.length * 8) 8; simp at this ⊢; try exact this
          obtain ⟨v, hve⟩ : ∃ v, UInt8.ofNat (l.length * 8 / 2 ^ 8) = v := ⟨_, rfl⟩
          rw [hve] at hv
          have hsn : ((lenB l.length).map bV).take 6 ++ [.int .u8 (v.toNat : Int)] = ((lenB l.length).map bV).take 7 := by rw [← hve]; exact takeV_snoc rfl
          clear hve
          replace hsn := Lib.hid hsn
          go_wp2_with (at_builtin; refine wp_here ?_)
          refine Lib.hid ?_
          refine wpList_push1 rfl _ _ 24 rfl _ 5 i0 (.int .u8 0) 1 Tryd.underlying24 hi0 hz0 hz1 hz2 rfl w.heap.size _ _ _ hrow.out _ (hxl).symm rfl 1 1 [.int .u8 (v.toNat : Int)] _ rfl rfl rfl ?h1_8 ?h63_8 ?hb_8 ?hlo_8 ?hk_8
          case h1_8 => intro u hu; simp only [List.mem_singleton] at hu; subst hu; rfl
          case h63_8 => rw [hxl]; simp only [List.length_singleton]; omega
          case hb_8 => decide
          case hlo_8 => exact hC.size
          intro g2 cap2 w2 hrow2 hB2
          rw [hxl]
          have hC2 := hC.trans (hB2 w.heap.size (Nat.le_refl _) hC.size)
          rw [List.append_assoc, hsn.out] at hrow2
          replace hrow2 := Lib.hid hrow2
          clear hC hrow hB2 hv
          go_wp2
          go_round
          case rel => exact ⟨7, g2, cap2, by omega, rfl, rfl, hrow2, hC2⟩
          case measure => show _ - (n + 6 + 1) < _ - (n + 6); omega
        · obtain rfl : _ = Value.int .i64 0 := hsv
          have hxl : (padV l (padN l.length) ++ ((lenB l.length).map bV).take 7).length = n + 7 := by rw [List.length_append, hxl0, List.length_take]; simp [lenB_len]
          have hv : ((l.length : Int) * 8 % 256) = ((UInt8.ofNat (l.length * 8 / 2 ^ 0)).toNat : Int) := by have := byte_shr (l.length * 8) 0; simp at this ⊢; try exact this
          obtain ⟨v, hve⟩ : ∃ v, UInt8.ofNat (l.length * 8 / 2 ^ 0) = v := ⟨_, rfl⟩
          rw [hve] at hv
          have hsn : ((lenB l.length).map bV).take 7 ++ [.int .u8 (v.toNat : Int)] = ((lenB l.length).map bV).take 8 := by rw [← hve]; exact takeV_snoc rfl
          clear hve
          replace hsn := Lib.hid hsn
          go_wp2_with (at_builtin; refine wp_here ?_)
          refine Lib.hid ?_
          refine wpList_push1 rfl _ _ 24 rfl _ 5 i0 (.int .u8 0) 1 Tryd.underlying24 hi0 hz0 hz1 hz2 rfl w.heap.size _ _ _ hrow.out _ (hxl).symm rfl 1 1 [.int .u8 (v.toNat : Int)] _ rfl rfl rfl ?h1_9 ?h63_9 ?hb_9 ?hlo_9 ?hk_9
          case h1_9 => intro u hu; simp only [List.mem_singleton] at hu; subst hu; rfl
          case h63_9 => rw [hxl]; simp only [List.length_singleton]; omega
          case hb_9 => decide
          case hlo_9 => exact hC.size
          intro g2 cap2 w2 hrow2 hB2
          rw [hxl]
          have hC2 := hC.trans (hB2 w.heap.size (Nat.le_refl _) hC.size)
          rw [List.append_assoc, hsn.out] at hrow2
          replace hrow2 := Lib.hid hrow2
          clear hC hrow hB2 hv
          go_wp2
          go_round
          case rel => exact ⟨8, g2, cap2, by omega, rfl, rfl, hrow2, hC2⟩
          case measure => show _ - (n + 7 + 1) < _ - (n + 7); omega
        · obtain rfl : _ = Value.int .i64 (-1) := hsv
          rw [padded_map] at hrow
          have hpl := padded_len l
          rw [hn.out] at hpl
          replace hpl : ((padded l).map bV).length = n + 8 := by rw [List.length_map]; exact hpl
          replace hrow := Lib.hid hrow.out
          replace hpl := Lib.hid hpl
          go_wp2
          go_ret
          exact ⟨g, cap, by rw [hpl.out]; rfl, hrow.out, hC⟩

theorem infoWord : (Tryd.prog.info? 27).map (fun i => (i.zero, i.size, i.bytes)) = some (some (.int .u32 0), 1, 4) := by kernel_rfl
attribute [local go_sem] w_add w_xor w_and w_shr3 w_shr10 w_not
set_option maxRecDepth 1000000 in
set_option maxHeartbeats 16000000 in
theorem l2Words_any (b : List UInt8) (gb off cb : Nat) (w : World) (hb : b.length = 64) (hB : BAt w gb off b) :
    Calls Tryd.prog 22 #[.slice (some ⟨gb, off, none⟩) 64 cb] w (ResV 27 ((wsAt b 64).map wV) w) := by
  have hBh := Lib.hid hB
  have hgb := hB.1
  clear hB
  obtain ⟨i0, hi0, hz0, hz1, hz2⟩ := info_parts infoWord
  go_enter Tryd.func22, Tryd.ntmps22
  go_wp2_with (at_make; refine wpList_make_own _ rfl _ _ 34 rfl w.heap.size 27 i0 (.int .u32 0) 1 Tryd.underlying34 hi0 hz0 hz1 _ _ _ 64 rfl rfl (by omega) (by omega) (by decide) (Nat.le_refl _) ?_)
  intro w1 hown hgr
  have hrow : RowV w1 27 w.heap.size w.heap.size 64 ((wsAt b 0).map wV) := RowV.of_own hown
  have hC : Below w.heap.size w w1 := (Below.refl _ _).grown hgr (Nat.le_refl _) (fun k hk => by cases hk)
  clear hown hgr
  replace hrow := Lib.hid hrow
  go_wp2
  go_loopw [3, 4] (fun dv iv wr => ∃ k g cap, k ≤ 16 ∧ iv = .int .i64 (k : Nat) ∧ dv = .slice (some ⟨g, 0, none⟩) k cap ∧ Hid (RowV wr 27 w.heap.size g cap ((wsAt b k).map wV)) ∧ Below w.heap.size w wr) (fun _ iv _ => 16 - (intOf iv).toNat)
  case atStart => exact ⟨0, w.heap.size, 64, by omega, rfl, rfl, hrow, hC⟩
  case round =>
    clear hrow hC
    obtain ⟨k, g, cap, hk, hiv, rfl, hrow, hC⟩ := hrel
    by_cases hlt : k < 16
    · subst hiv
      have hkI : (k : Int) < 16 := by omega
      have hBr := hBh.out.below hC
      have h0 := hBr.at2 (j := 4 * k) (by omega)
      have h1 := hBr.at2 (j := 4 * k + 1) (by omega)
      have h2 := hBr.at2 (j := 4 * k + 2) (by omega)
      have h3 := hBr.at2 (j := 4 * k + 3) (by omega)
      obtain ⟨x0, hx0⟩ : ∃ x, b.getD (4 * k) 0 = x := ⟨_, rfl⟩
      obtain ⟨x1, hx1⟩ : ∃ x, b.getD (4 * k + 1) 0 = x := ⟨_, rfl⟩
      obtain ⟨x2, hx2⟩ : ∃ x, b.getD (4 * k + 2) 0 = x := ⟨_, rfl⟩
      obtain ⟨x3, hx3⟩ : ∃ x, b.getD (4 * k + 3) 0 = x := ⟨_, rfl⟩
      rw [hx0] at h0
      rw [hx1] at h1
      rw [hx2] at h2
      rw [hx3] at h3
      have hnx : wsAt b (k + 1) = wsAt b k ++ [word4 x0 x1 x2 x3] := by
        rw [← hx0, ← hx1, ← hx2, ← hx3]
        conv => lhs; unfold wsAt
        simp only [nextW, if_pos hlt]
      clear hx0 hx1 hx2 hx3 hBr
      have hkl := wsAt_len b k
      have b0 := x0.toNat_lt
      have b1 := x1.toNat_lt
      have b2 := x2.toNat_lt
      have b3 := x3.toNat_lt
      have w4 : IntKind.i64.wrap (4 * (k : Int)) = 4 * (k : Int) := wrap_small _ (by omega) (by omega)
      have w41 : IntKind.i64.wrap (4 * (k : Int) + 1) = 4 * (k : Int) + 1 := wrap_small _ (by omega) (by omega)
      have w42 : IntKind.i64.wrap (4 * (k : Int) + 2) = 4 * (k : Int) + 2 := wrap_small _ (by omega) (by omega)
      have w43 : IntKind.i64.wrap (4 * (k : Int) + 3) = 4 * (k : Int) + 3 := wrap_small _ (by omega) (by omega)
      have e40 : (4 * (k : Int)).toNat = 4 * k := by omega
      have e41 : (4 * (k : Int) + 1).toNat = 4 * k + 1 := by omega
      have e42 : (4 * (k : Int) + 2).toNat = 4 * k + 2 := by omega
      have e43 : (4 * (k : Int) + 3).toNat = 4 * k + 3 := by omega
      have m0 : (x0.toNat : Int) * 16777216 % 4294967296 = (x0.toNat : Int) * 16777216 := by omega
      have m1 : (x1.toNat : Int) * 65536 % 4294967296 = (x1.toNat : Int) * 65536 := by omega
      have m2 : (x2.toNat : Int) * 256 % 4294967296 = (x2.toNat : Int) * 256 := by omega
      have z0 : (x0.toNat : Int) % 4294967296 = (x0.toNat : Int) := by omega
      have z1 : (x1.toNat : Int) % 4294967296 = (x1.toNat : Int) := by omega
      have z2 : (x2.toNat : Int) % 4294967296 = (x2.toNat : Int) := by omega
      have z3 : (x3.toNat : Int) % 4294967296 = (x3.toNat : Int) := by omega
      have u0 : IntKind.u32.wrap (x0.toNat : Int) = (x0.toNat : Int) := by rw [IntKind.wrap_u32']; omega
      have u1 : IntKind.u32.wrap (x1.toNat : Int) = (x1.toNat : Int) := by rw [IntKind.wrap_u32']; omega
      have u2 : IntKind.u32.wrap (x2.toNat : Int) = (x2.toNat : Int) := by rw [IntKind.wrap_u32']; omega
      have u3 : IntKind.u32.wrap (x3.toNat : Int) = (x3.toNat : Int) := by rw [IntKind.wrap_u32']; omega
      have um0 : IntKind.u32.wrap ((x0.toNat : Int) * 16777216) = (x0.toNat : Int) * 16777216 := by rw [IntKind.wrap_u32']; omega
      have um1 : IntKind.u32.wrap ((x1.toNat : Int) * 65536) = (x1.toNat : Int) * 65536 := by rw [IntKind.wrap_u32']; omega
      have um2 : IntKind.u32.wrap ((x2.toNat : Int) * 256) = (x2.toNat : Int) * 256 := by rw [IntKind.wrap_u32']; omega
      obtain ⟨n1, n2, o1, o2, o3⟩ := word_or x0 x1 x2 x3
      obtain ⟨v, hv⟩ : ∃ v, word4 x0 x1 x2 x3 = v := ⟨_, rfl⟩
      rw [hv] at o3 hnx
      clear hv b0 b1 b2 b3
      replace hnx := Lib.hid hnx
      replace hkl := Lib.hid hkl
      have kal := fun (o : Obj) (a : Addr) (ha : a.block = gb) => alloc_cell (w := wr.drew) (Nat.lt_of_lt_of_le hgb hC.size) o a ha
      replace kal := Lib.hid kal
      go_wp2_with fail
      first | refine wp_region_noPanic ?_ | skip
      refine wp_region_held_drew (S := (fun W' => W'.cell? ⟨gb, off + 4 * k, none⟩ = some (.int .u8 (x0.toNat : Int)) ∧ W'.cell? ⟨gb, off + (4 * k + 1), none⟩ = some (.int .u8 (x1.toNat : Int)) ∧ W'.cell? ⟨gb, off + (4 * k + 2), none⟩ = some (.int .u8 (x2.toNat : Int)) ∧ W'.cell? ⟨gb, off + (4 * k + 3), none⟩ = some (.int .u8 (x3.toNat : Int)))) (by kernel_rfl) ?_ (fun hHeld => ?_)
      · exact ⟨h0, h1, h2, h3⟩
      refine wpAnyH_take (i := 0) (v := ?_) rfl (by kernel_rfl) (by kernel_rfl) (by kernel_rfl) (fun _ _ _ h => h) (Or.inl ⟨by rfl, ?_⟩) (by assumption) ?_
      rotate_left
      · (intro w hSw; (try dsimp only at hSw); go_simp; try with_reducible rfl)
      try simp only [Array.reduceGetElem, Act.put, List.setIfInBounds_toArray, List.set_cons_zero, List.set_cons_succ]
      refine wpAnyH_take (i := 1) (v := ?_) rfl (by kernel_rfl) (by kernel_rfl) (by kernel_rfl) (fun _ _ _ h => h) (Or.inl ⟨by rfl, ?_⟩) (by assumption) ?_
      rotate_left
      · (intro w hSw; (try dsimp only at hSw); go_simp; try with_reducible rfl)
      try simp only [Array.reduceGetElem, Act.put, List.setIfInBounds_toArray, List.set_cons_zero, List.set_cons_succ]
      refine wpAnyH_take (i := 2) (v := ?_) rfl (by kernel_rfl) (by kernel_rfl) (by kernel_rfl) (fun _ _ _ h => h) (Or.inl ⟨by rfl, ?_⟩) (by assumption) ?_
      rotate_left
      · (intro w hSw; (try dsimp only at hSw); go_simp; try with_reducible rfl)
      try simp only [Array.reduceGetElem, Act.put, List.setIfInBounds_toArray, List.set_cons_zero, List.set_cons_succ]
      refine wpAnyH_take (i := 3) (v := .int .i64 (4 * (k : Int))) rfl (by kernel_rfl) (by kernel_rfl) (by kernel_rfl) (fun _ _ _ h => h) (Or.inl ⟨by rfl, ?_⟩) (by assumption) ?_
      · (intro w hSw; (try dsimp only at hSw); go_simp; first | done | with_reducible rfl | (intro hh; exact absurd (hh (by omega)) (by omega)) | (rw [if_pos (by omega)]; done) | (rw [if_pos (by omega)]; rfl) | (simp only [*]; done) | rfl)
      try simp only [Array.reduceGetElem, Act.put, List.setIfInBounds_toArray, List.set_cons_zero, List.set_cons_succ]
      refine wpAnyH_take (i := 4) (v := .pointer (some ⟨gb, off + 4 * k, none⟩)) rfl (by kernel_rfl) (by kernel_rfl) (by kernel_rfl) (fun _ _ _ h => h) (Or.inl ⟨by rfl, ?_⟩) (by assumption) ?_
      · (intro w hSw; (try dsimp only at hSw); go_simp; first | done | with_reducible rfl | (intro hh; exact absurd (hh (by omega)) (by omega)) | (rw [if_pos (by omega)]; done) | (rw [if_pos (by omega)]; rfl) | (simp only [*]; done) | rfl)
      try simp only [Array.reduceGetElem, Act.put, List.setIfInBounds_toArray, List.set_cons_zero, List.set_cons_succ]
      refine wpAnyH_take (i := 5) (v := .int .u8 (x0.toNat : Int)) rfl (by kernel_rfl) (by kernel_rfl) (by kernel_rfl) (fun _ _ _ h => h) (Or.inl ⟨by rfl, ?_⟩) (by assumption) ?_
      · (intro w hSw; (try dsimp only at hSw); go_simp; first | done | with_reducible rfl | (intro hh; exact absurd (hh (by omega)) (by omega)) | (rw [if_pos (by omega)]; done) | (rw [if_pos (by omega)]; rfl) | (simp only [*]; done) | rfl)
      try simp only [Array.reduceGetElem, Act.put, List.setIfInBounds_toArray, List.set_cons_zero, List.set_cons_succ]
      refine wpAnyH_take (i := 6) (v := .int .u32 (x0.toNat : Int)) rfl (by kernel_rfl) (by kernel_rfl) (by kernel_rfl) (fun _ _ _ h => h) (Or.inl ⟨by rfl, ?_⟩) (by assumption) ?_
      · (intro w hSw; (try dsimp only at hSw); go_simp; first | done | with_reducible rfl | (intro hh; exact absurd (hh (by omega)) (by omega)) | (rw [if_pos (by omega)]; done) | (rw [if_pos (by omega)]; rfl) | (simp only [*]; done) | rfl)
      try simp only [Array.reduceGetElem, Act.put, List.setIfInBounds_toArray, List.set_cons_zero, List.set_cons_succ]
      refine wpAnyH_take (i := 7) (v := .int .u32 ((x0.toNat : Int) * 16777216)) rfl (by kernel_rfl) (by kernel_rfl) (by kernel_rfl) (fun _ _ _ h => h) (Or.inl ⟨by rfl, ?_⟩) (by assumption) ?_
      · (intro w hSw; (try dsimp only at hSw); go_simp; first | done | with_reducible rfl | (intro hh; exact absurd (hh (by omega)) (by omega)) | (rw [if_pos (by omega)]; done) | (rw [if_pos (by omega)]; rfl) | (simp only [*]; done) | rfl)
      try simp only [Array.reduceGetElem, Act.put, List.setIfInBounds_toArray, List.set_cons_zero, List.set_cons_succ]
      refine wpAnyH_take (i := 8) (v := ?_) rfl (by kernel_rfl) (by kernel_rfl) (by kernel_rfl) (fun _ _ _ h => h) (Or.inl ⟨by rfl, ?_⟩) (by assumption) ?_
      rotate_left
      · (intro w hSw; (try dsimp only at hSw); go_simp; try with_reducible rfl)
      try simp only [Array.reduceGetElem, Act.put, List.setIfInBounds_toArray, List.set_cons_zero, List.set_cons_succ]
      refine wpAnyH_take (i := 9) (v := ?_) rfl (by kernel_rfl) (by kernel_rfl) (by kernel_rfl) (fun _ _ _ h => h) (Or.inl ⟨by rfl, ?_⟩) (by assumption) ?_
      rotate_left
      · (intro w hSw; (try dsimp only at hSw); go_simp; try with_reducible rfl)
      try simp only [Array.reduceGetElem, Act.put, List.setIfInBounds_toArray, List.set_cons_zero, List.set_cons_succ]
      refine wpAnyH_take (i := 10) (v := .int .i64 (4 * (k : Int))) rfl (by kernel_rfl) (by kernel_rfl) (by kernel_rfl) (fun _ _ _ h => h) (Or.inl ⟨by rfl, ?_⟩) (by assumption) ?_
      · (intro w hSw; (try dsimp only at hSw); go_simp; first | done | with_reducible rfl | (intro hh; exact absurd (hh (by omega)) (by omega)) | (rw [if_pos (by omega)]; done) | (rw [if_pos (by omega)]; rfl) | (simp only [*]; done) | rfl)
      try simp only [Array.reduceGetElem, Act.put, List.setIfInBounds_toArray, List.set_cons_zero, List.set_cons_succ]
      refine wpAnyH_take (i := 11) (v := .int .i64 (4 * (k : Int) + 1)) rfl (by kernel_rfl) (by kernel_rfl) (by kernel_rfl) (fun _ _ _ h => h) (Or.inl ⟨by rfl, ?_⟩) (by assumption) ?_
      · (intro w hSw; (try dsimp only at hSw); go_simp; first | done | with_reducible rfl | (intro hh; exact absurd (hh (by omega)) (by omega)) | (rw [if_pos (by omega)]; done) | (rw [if_pos (by omega)]; rfl) | (simp only [*]; done) | rfl)
      try simp only [Array.reduceGetElem, Act.put, List.setIfInBounds_toArray, List.set_cons_zero, List.set_cons_succ]
      refine wpAnyH_take (i := 12) (v := .pointer (some ⟨gb, off + (4 * k + 1), none⟩)) rfl (by kernel_rfl) (by kernel_rfl) (by kernel_rfl) (fun _ _ _ h => h) (Or.inl ⟨by rfl, ?_⟩) (by assumption) ?_
      · (intro w hSw; (try dsimp only at hSw); go_simp; first | done | with_reducible rfl | (intro hh; exact absurd (hh (by omega)) (by omega)) | (rw [if_pos (by omega)]; done) | (rw [if_pos (by omega)]; rfl) | (simp only [*]; done) | rfl)
      try simp only [Array.reduceGetElem, Act.put, List.setIfInBounds_toArray, List.set_cons_zero, List.set_cons_succ]
      refine wpAnyH_take (i := 13) (v := .int .u8 (x1.toNat : Int)) rfl (by kernel_rfl) (by kernel_rfl) (by kernel_rfl) (fun _ _ _ h => h) (Or.inl ⟨by rfl, ?_⟩) (by assumption) ?_
      · (intro w hSw; (try dsimp only at hSw); go_simp; first | done | with_reducible rfl | (intro hh; exact absurd (hh (by omega)) (by omega)) | (rw [if_pos (by omega)]; done) | (rw [if_pos (by omega)]; rfl) | (simp only [*]; done) | rfl)
      try simp only [Array.reduceGetElem, Act.put, List.setIfInBounds_toArray, List.set_cons_zero, List.set_cons_succ]
      refine wpAnyH_take (i := 14) (v := .int .u32 (x1.toNat : Int)) rfl (by kernel_rfl) (by kernel_rfl) (by kernel_rfl) (fun _ _ _ h => h) (Or.inl ⟨by rfl, ?_⟩) (by assumption) ?_
      · (intro w hSw; (try dsimp only at hSw); go_simp; first | done | with_reducible rfl | (intro hh; exact absurd (hh (by omega)) (by omega)) | (rw [if_pos (by omega)]; done) | (rw [if_pos (by omega)]; rfl) | (simp only [*]; done) | rfl)
      try simp only [Array.reduceGetElem, Act.put, List.setIfInBounds_toArray, List.set_cons_zero, List.set_cons_succ]
      refine wpAnyH_take (i := 15) (v := .int .u32 ((x1.toNat : Int) * 65536)) rfl (by kernel_rfl) (by kernel_rfl) (by kernel_rfl) (fun _ _ _ h => h) (Or.inl ⟨by rfl, ?_⟩) (by assumption) ?_
      · (intro w hSw; (try dsimp only at hSw); go_simp; first | done | with_reducible rfl | (intro hh; exact absurd (hh (by omega)) (by omega)) | (rw [if_pos (by omega)]; done) | (rw [if_pos (by omega)]; rfl) | (simp only [*]; done) | rfl)
      try simp only [Array.reduceGetElem, Act.put, List.setIfInBounds_toArray, List.set_cons_zero, List.set_cons_succ]
      refine wpAnyH_take (i := 16) (v := .int .u32 (n1 : Int)) rfl (by kernel_rfl) (by kernel_rfl) (by kernel_rfl) (fun _ _ _ h => h) (Or.inl ⟨by rfl, ?_⟩) (by assumption) ?_
      · (intro w hSw; (try dsimp only at hSw); go_simp; first | done | with_reducible rfl | (intro hh; exact absurd (hh (by omega)) (by omega)) | (rw [if_pos (by omega)]; done) | (rw [if_pos (by omega)]; rfl) | (simp only [*]; done) | rfl)
      try simp only [Array.reduceGetElem, Act.put, List.setIfInBounds_toArray, List.set_cons_zero, List.set_cons_succ]
      refine wpAnyH_take (i := 17) (v := ?_) rfl (by kernel_rfl) (by kernel_rfl) (by kernel_rfl) (fun _ _ _ h => h) (Or.inl ⟨by rfl, ?_⟩) (by assumption) ?_
      rotate_left
      · (intro w hSw; (try dsimp only at hSw); go_simp; try with_reducible rfl)
      try simp only [Array.reduceGetElem, Act.put, List.setIfInBounds_toArray, List.set_cons_zero, List.set_cons_succ]
      refine wpAnyH_take (i := 18) (v := ?_) rfl (by kernel_rfl) (by kernel_rfl) (by kernel_rfl) (fun _ _ _ h => h) (Or.inl ⟨by rfl, ?_⟩) (by assumption) ?_
      rotate_left
      · (intro w hSw; (try dsimp only at hSw); go_simp; try with_reducible rfl)
      try simp only [Array.reduceGetElem, Act.put, List.setIfInBounds_toArray, List.set_cons_zero, List.set_cons_succ]
      refine wpAnyH_take (i := 19) (v := .int .i64 (4 * (k : Int))) rfl (by kernel_rfl) (by kernel_rfl) (by kernel_rfl) (fun _ _ _ h => h) (Or.inl ⟨by rfl, ?_⟩) (by assumption) ?_
      · (intro w hSw; (try dsimp only at hSw); go_simp; first | done | with_reducible rfl | (intro hh; exact absurd (hh (by omega)) (by omega)) | (rw [if_pos (by omega)]; done) | (rw [if_pos (by omega)]; rfl) | (simp only [*]; done) | rfl)
      try simp only [Array.reduceGetElem, Act.put, List.setIfInBounds_toArray, List.set_cons_zero, List.set_cons_succ]
      refine wpAnyH_take (i := 20) (v := .int .i64 (4 * (k : Int) + 2)) rfl (by kernel_rfl) (by kernel_rfl) (by kernel_rfl) (fun _ _ _ h => h) (Or.inl ⟨by rfl, ?_⟩) (by assumption) ?_
      · (intro w hSw; (try dsimp only at hSw); go_simp; first | done | with_reducible rfl | (intro hh; exact absurd (hh (by omega)) (by omega)) | (rw [if_pos (by omega)]; done) | (rw [if_pos (by omega)]; rfl) | (simp only [*]; done) | rfl)
      try simp only [Array.reduceGetElem, Act.put, List.setIfInBounds_toArray, List.set_cons_zero, List.set_cons_succ]
      refine wpAnyH_take (i := 21) (v := .pointer (some ⟨gb, off + (4 * k + 2), none⟩)) rfl (by kernel_rfl) (by kernel_rfl) (by kernel_rfl) (fun _ _ _ h => h) (Or.inl ⟨by rfl, ?_⟩) (by assumption) ?_
      · (intro w hSw; (try dsimp only at hSw); go_simp; first | done | with_reducible rfl | (intro hh; exact absurd (hh (by omega)) (by omega)) | (rw [if_pos (by omega)]; done) | (rw [if_pos (by omega)]; rfl) | (simp only [*]; done) | rfl)
      try simp only [Array.reduceGetElem, Act.put, List.setIfInBounds_toArray, List.set_cons_zero, List.set_cons_succ]
      refine wpAnyH_take (i := 22) (v := .int .u8 (x2.toNat : Int)) rfl (by kernel_rfl) (by kernel_rfl) (by kernel_rfl) (fun _ _ _ h => h) (Or.inl ⟨by rfl, ?_⟩) (by assumption) ?_
      · (intro w hSw; (try dsimp only at hSw); go_simp; first | done | with_reducible rfl | (intro hh; exact absurd (hh (by omega)) (by omega)) | (rw [if_pos (by omega)]; done) | (rw [if_pos (by omega)]; rfl) | (simp only [*]; done) | rfl)
      try simp only [Array.reduceGetElem, Act.put, List.setIfInBounds_toArray, List.set_cons_zero, List.set_cons_succ]
      refine wpAnyH_take (i := 23) (v := .int .u32 (x2.toNat : Int)) rfl (by kernel_rfl) (by kernel_rfl) (by kernel_rfl) (fun _ _ _ h => h) (Or.inl ⟨by rfl, ?_⟩) (by assumption) ?_
      · (intro w hSw; (try dsimp only at hSw); go_simp; first | done | with_reducible rfl | (intro hh; exact absurd (hh (by omega)) (by omega)) | (rw [if_pos (by omega)]; done) | (rw [if_pos (by omega)]; rfl) | (simp only [*]; done) | rfl)
      try simp only [Array.reduceGetElem, Act.put, List.setIfInBounds_toArray, List.set_cons_zero, List.set_cons_succ]
      refine wpAnyH_take (i := 24) (v := .int .u32 ((x2.toNat : Int) * 256)) rfl (by kernel_rfl) (by kernel_rfl) (by kernel_rfl) (fun _ _ _ h => h) (Or.inl ⟨by rfl, ?_⟩) (by assumption) ?_
      · (intro w hSw; (try dsimp only at hSw); go_simp; first | done | with_reducible rfl | (intro hh; exact absurd (hh (by omega)) (by omega)) | (rw [if_pos (by omega)]; done) | (rw [if_pos (by omega)]; rfl) | (simp only [*]; done) | rfl)
      try simp only [Array.reduceGetElem, Act.put, List.setIfInBounds_toArray, List.set_cons_zero, List.set_cons_succ]
      refine wpAnyH_take (i := 25) (v := .int .u32 (n2 : Int)) rfl (by kernel_rfl) (by kernel_rfl) (by kernel_rfl) (fun _ _ _ h => h) (Or.inl ⟨by rfl, ?_⟩) (by assumption) ?_
      · (intro w hSw; (try dsimp only at hSw); go_simp; first | done | with_reducible rfl | (intro hh; exact absurd (hh (by omega)) (by omega)) | (rw [if_pos (by omega)]; done) | (rw [if_pos (by omega)]; rfl) | (simp only [*]; done) | rfl)
      try simp only [Array.reduceGetElem, Act.put, List.setIfInBounds_toArray, List.set_cons_zero, List.set_cons_succ]
      refine wpAnyH_take (i := 26) (v := ?_) rfl (by kernel_rfl) (by kernel_rfl) (by kernel_rfl) (fun _ _ _ h => h) (Or.inl ⟨by rfl, ?_⟩) (by assumption) ?_
      rotate_left
      · (intro w hSw; (try dsimp only at hSw); go_simp; try with_reducible rfl)
      try simp only [Array.reduceGetElem, Act.put, List.setIfInBounds_toArray, List.set_cons_zero, List.set_cons_succ]
      refine wpAnyH_take (i := 27) (v := ?_) rfl (by kernel_rfl) (by kernel_rfl) (by kernel_rfl) (fun _ _ _ h => h) (Or.inl ⟨by rfl, ?_⟩) (by assumption) ?_
      rotate_left
      · (intro w hSw; (try dsimp only at hSw); go_simp; try with_reducible rfl)
      try simp only [Array.reduceGetElem, Act.put, List.setIfInBounds_toArray, List.set_cons_zero, List.set_cons_succ]
      refine wpAnyH_take (i := 28) (v := .int .i64 (4 * (k : Int))) rfl (by kernel_rfl) (by kernel_rfl) (by kernel_rfl) (fun _ _ _ h => h) (Or.inl ⟨by rfl, ?_⟩) (by assumption) ?_
      · (intro w hSw; (try dsimp only at hSw); go_simp; first | done | with_reducible rfl | (intro hh; exact absurd (hh (by omega)) (by omega)) | (rw [if_pos (by omega)]; done) | (rw [if_pos (by omega)]; rfl) | (simp only [*]; done) | rfl)
      try simp only [Array.reduceGetElem, Act.put, List.setIfInBounds_toArray, List.set_cons_zero, List.set_cons_succ]
      refine wpAnyH_take (i := 29) (v := .int .i64 (4 * (k : Int) + 3)) rfl (by kernel_rfl) (by kernel_rfl) (by kernel_rfl) (fun _ _ _ h => h) (Or.inl ⟨by rfl, ?_⟩) (by assumption) ?_
      · (intro w hSw; (try dsimp only at hSw); go_simp; first | done | with_reducible rfl | (intro hh; exact absurd (hh (by omega)) (by omega)) | (rw [if_pos (by omega)]; done) | (rw [if_pos (by omega)]; rfl) | (simp only [*]; done) | rfl)
      try simp only [Array.reduceGetElem, Act.put, List.setIfInBounds_toArray, List.set_cons_zero, List.set_cons_succ]
      refine wpAnyH_take (i := 30) (v := .pointer (some ⟨gb, off + (4 * k + 3), none⟩)) rfl (by kernel_rfl) (by kernel_rfl) (by kernel_rfl) (fun _ _ _ h => h) (Or.inl ⟨by rfl, ?_⟩) (by assumption) ?_
      · (intro w hSw; (try dsimp only at hSw); go_simp; first | done | with_reducible rfl | (intro hh; exact absurd (hh (by omega)) (by omega)) | (rw [if_pos (by omega)]; done) | (rw [if_pos (by omega)]; rfl) | (simp only [*]; done) | rfl)
      try simp only [Array.reduceGetElem, Act.put, List.setIfInBounds_toArray, List.set_cons_zero, List.set_cons_succ]
      refine wpAnyH_take (i := 31) (v := .int .u8 (x3.toNat : Int)) rfl (by kernel_rfl) (by kernel_rfl) (by kernel_rfl) (fun _ _ _ h => h) (Or.inl ⟨by rfl, ?_⟩) (by assumption) ?_
      · (intro w hSw; (try dsimp only at hSw); go_simp; first | done | with_reducible rfl | (intro hh; exact absurd (hh (by omega)) (by omega)) | (rw [if_pos (by omega)]; done) | (rw [if_pos (by omega)]; rfl) | (simp only [*]; done) | rfl)
      try simp only [Array.reduceGetElem, Act.put, List.setIfInBounds_toArray, List.set_cons_zero, List.set_cons_succ]
      refine wpAnyH_take (i := 32) (v := .int .u32 (x3.toNat : Int)) rfl (by kernel_rfl) (by kernel_rfl) (by kernel_rfl) (fun _ _ _ h => h) (Or.inl ⟨by rfl, ?_⟩) (by assumption) ?_
      · (intro w hSw; (try dsimp only at hSw); go_simp; first | done | with_reducible rfl | (intro hh; exact absurd (hh (by omega)) (by omega)) | (rw [if_pos (by omega)]; done) | (rw [if_pos (by omega)]; rfl) | (simp only [*]; done) | rfl)
      try simp only [Array.reduceGetElem, Act.put, List.setIfInBounds_toArray, List.set_cons_zero, List.set_cons_succ]
      refine wpAnyH_take (i := 33) (v := .int .u32 (v.toNat : Int)) rfl (by kernel_rfl) (by kernel_rfl) (by kernel_rfl) (fun _ _ _ h => h) (Or.inl ⟨by rfl, ?_⟩) (by assumption) ?_
      · (intro w hSw; (try dsimp only at hSw); go_simp; first | done | with_reducible rfl | (intro hh; exact absurd (hh (by omega)) (by omega)) | (rw [if_pos (by omega)]; done) | (rw [if_pos (by omega)]; rfl) | (simp only [*]; done) | rfl)
      try simp only [Array.reduceGetElem, Act.put, List.setIfInBounds_toArray, List.set_cons_zero, List.set_cons_succ]
      refine wpAnyH_ready (rs := [34]) (by kernel_rfl) (by simp) ?_
      refine AllReadyH.cons rfl (fun K hK => ?_) AllReadyH.nil
      go_simp
      refine hK.out _ _ ?_ (fun hHeld => ?_)
      · (try dsimp only); first | exact ⟨h0, h1, h2, h3⟩ | exact ⟨(kal.out _ _ rfl).trans h0, (kal.out _ _ rfl).trans h1, (kal.out _ _ rfl).trans h2, (kal.out _ _ rfl).trans h3⟩
      clear hK K
      try simp only [Array.reduceGetElem, Act.put, List.setIfInBounds_toArray, List.set_cons_zero, List.set_cons_succ]
      refine wpAnyH_push1 35 (by kernel_rfl) rfl rfl _ _ 34 rfl _ 27 i0 (.int .u32 0) 4 Tryd.underlying34 hi0 hz0 hz1 hz2 rfl w.heap.size _ _ _ (RowV.drew hrow.out) _ (by rw [List.length_map]; exact hkl.out.symm) rfl 1 1 [.int .u32 (v.toNat : Int)] _ rfl rfl rfl ?h1_a ?h63_a ?hb_a ?hlo_a ?hS_a ?hk_a
      case h1_a => intro u hu; simp only [List.mem_singleton] at hu; subst hu; rfl
      case h63_a => rw [List.length_map, hkl.out]; simp only [List.length_singleton]; omega
      case hb_a => decide
      case hlo_a => exact hC.size
      case hS_a =>
        intro w9 hB9 _
        have hB := hB9 w.heap.size (Nat.le_refl _) hC.size
        have hcc : ∀ a : Addr, a.block = gb → w9.cell? a = wr.cell? a := fun a ha => by rw [hB.cell (by rw [ha]; exact hgb)]; rfl
        exact ⟨(hcc _ rfl).trans h0, (hcc _ rfl).trans h1, (hcc _ rfl).trans h2, (hcc _ rfl).trans h3⟩
      intro g2 cap2 w2 hrow2 hB2 hHeld9
      have hC2 := hC.drew.trans (hB2 w.heap.size (Nat.le_refl _) hC.size)
      rw [List.length_map, hkl.out]
      try simp only [Array.reduceGetElem, Act.put, List.setIfInBounds_toArray, List.set_cons_zero, List.set_cons_succ]
      refine wpAnyH_take (i := 36) (v := ?_) rfl (by kernel_rfl) (by kernel_rfl) (by kernel_rfl) (fun _ _ _ h => h) (Or.inl ⟨by rfl, ?_⟩) (by assumption) ?_
      rotate_left
      · (intro w hSw; (try dsimp only at hSw); go_simp; try with_reducible rfl)
      try simp only [Array.reduceGetElem, Act.put, List.setIfInBounds_toArray, List.set_cons_zero, List.set_cons_succ]
      refine wpAnyH_done (by kernel_rfl) ?_ _
      replace hrow2 : RowV w2 27 w.heap.size g2 cap2 ((wsAt b (k + 1)).map wV) := by rw [hnx.out, List.map_append]; exact hrow2
      replace hrow2 := Lib.hid hrow2
      clear hrow hC h0 h1 h2 h3 hHeld9 hB2
      go_wp2
      go_round
      case rel => exact ⟨k + 1, g2, cap2, by omega, by go_num, rfl, hrow2, hC2⟩
      case measure => simp [intOf]; omega
    · obtain rfl : k = 16 := by omega
      obtain rfl : _ = Value.int .i64 16 := hiv
      go_wp2
      go_loopw [3, 5] (fun dv iv wr => ∃ k g cap, 16 ≤ k ∧ k ≤ 64 ∧ iv = .int .i64 (k : Nat) ∧ dv = .slice (some ⟨g, 0, none⟩) k cap ∧ Hid (RowV wr 27 w.heap.size g cap ((wsAt b k).map wV)) ∧ Below w.heap.size w wr) (fun _ iv _ => 64 - (intOf iv).toNat)
      case atStart => exact ⟨16, g, cap, by omega, by omega, rfl, rfl, hrow, hC⟩
      case round =>
        clear hrow hC
        obtain ⟨k, g, cap, hk16, hk, hiv, rfl, hrow, hC⟩ := hrel
        subst hiv
        by_cases hlt : k < 64
        · have hkI : (k : Int) < 64 := by omega
          have hkJ : (16 : Int) ≤ (k : Int) := by omega
          have hkl := wsAt_len b k
          have hw16 := hrow.out.word (j := k - 16) (by omega)
          have hw15 := hrow.out.word (j := k - 15) (by omega)
          have hw7 := hrow.out.word (j := k - 7) (by omega)
          have hw2 := hrow.out.word (j := k - 2) (by omega)
          obtain ⟨x16, hx16⟩ : ∃ x, (wsAt b k).getD (k - 16) 0 = x := ⟨_, rfl⟩
          obtain ⟨x15, hx15⟩ : ∃ x, (wsAt b k).getD (k - 15) 0 = x := ⟨_, rfl⟩
          obtain ⟨x7, hx7⟩ : ∃ x, (wsAt b k).getD (k - 7) 0 = x := ⟨_, rfl⟩
          obtain ⟨x2, hx2⟩ : ∃ x, (wsAt b k).getD (k - 2) 0 = x := ⟨_, rfl⟩
          have hnx : wsAt b (k + 1) = wsAt b k ++ [addW (addW (addW x16 (lowF x15)) x7) (highF x2)] := by
            rw [← hx16, ← hx15, ← hx7, ← hx2]; conv => lhs; unfold wsAt
            simp only [nextW, if_neg (show ¬ k < 16 by omega)]
          rw [hx16] at hw16
          rw [hx15] at hw15
          rw [hx7] at hw7
          rw [hx2] at hw2
          clear hx16 hx15 hx7 hx2
          have e15 : (k : Int) - 15 = ((k - 15 : Nat) : Int) := by omega
          have e2 : (k : Int) - 2 = ((k - 2 : Nat) : Int) := by omega
          have e16 : (k : Int) - 16 = ((k - 16 : Nat) : Int) := by omega
          have e7 : (k : Int) - 7 = ((k - 7 : Nat) : Int) := by omega
          have b15 : ((k - 15 : Nat) : Int) < (k : Int) := by omega
          have b2 : ((k - 2 : Nat) : Int) < (k : Int) := by omega
          have b16 : ((k - 16 : Nat) : Int) < (k : Int) := by omega
          have b7 : ((k - 7 : Nat) : Int) < (k : Int) := by omega
          replace hnx := Lib.hid hnx
          replace hkl := Lib.hid hkl
          have ht7 : Hid (∀ w : World, Calls Tryd.prog 24 #[.int .u32 (x15.toNat : Int), .int .i64 7] w fun e w' => e = .returned (.int .u32 ((rotr x15 7).toNat : Int)) ∧ ∃ m, w' = w.drewN m) := Lib.hid (fun w => spec_turn x15 7 (by omega) (by omega) w)
          have ht18 : Hid (∀ w : World, Calls Tryd.prog 24 #[.int .u32 (x15.toNat : Int), .int .i64 18] w fun e w' => e = .returned (.int .u32 ((rotr x15 18).toNat : Int)) ∧ ∃ m, w' = w.drewN m) := Lib.hid (fun w => spec_turn x15 18 (by omega) (by omega) w)
          have ht17 : Hid (∀ w : World, Calls Tryd.prog 24 #[.int .u32 (x2.toNat : Int), .int .i64 17] w fun e w' => e = .returned (.int .u32 ((rotr x2 17).toNat : Int)) ∧ ∃ m, w' = w.drewN m) := Lib.hid (fun w => spec_turn x2 17 (by omega) (by omega) w)
          have ht19 : Hid (∀ w : World, Calls Tryd.prog 24 #[.int .u32 (x2.toNat : Int), .int .i64 19] w fun e w' => e = .returned (.int .u32 ((rotr x2 19).toNat : Int)) ∧ ∃ m, w' = w.drewN m) := Lib.hid (fun w => spec_turn x2 19 (by omega) (by omega) w)
          go_wp2_with (first
            | (go_at_call 24; with_reducible refine (ht7.out _).mono ?_; rintro e w' ⟨rfl, m7, rfl⟩)
            | (go_at_call 24; with_reducible refine (ht18.out _).mono ?_; rintro e w' ⟨rfl, m18, rfl⟩)
            | (go_at_call 24; with_reducible refine (ht17.out _).mono ?_; rintro e w' ⟨rfl, m17, rfl⟩)
            | (go_at_call 24; with_reducible refine (ht19.out _).mono ?_; rintro e w' ⟨rfl, m19, rfl⟩))
          refine wp_name (fun w3 hw3 => ?_)
          replace hrow : RowV w3 27 w.heap.size g cap ((wsAt b k).map wV) := by rw [← hw3]; exact hrow.out
          replace hw16 : w3.cell? ⟨g, k - 16, none⟩ = some (.int .u32 (x16.toNat : Int)) := by rw [← hw3]; exact hw16
          replace hw7 : w3.cell? ⟨g, k - 7, none⟩ = some (.int .u32 (x7.toNat : Int)) := by rw [← hw3]; exact hw7
          replace hC : Below w.heap.size w w3 := by rw [← hw3]; exact Below.drewW hC _
          clear hw3 hw15 hw2 ht7 ht18 ht17 ht19
          obtain ⟨lw, hlw⟩ : ∃ x, lowF x15 = x := ⟨_, rfl⟩
          obtain ⟨hi, hhi⟩ : ∃ x, highF x2 = x := ⟨_, rfl⟩
          obtain ⟨v, hv⟩ : ∃ x, addW (addW (addW x16 lw) x7) hi = x := ⟨_, rfl⟩
          have hnx2 : wsAt b (k + 1) = wsAt b k ++ [v] := by rw [hnx.out, hlw, hhi, hv]
          have i16 : IntKind.i64.wrap ((k - 16 : Nat) : Int) = ((k - 16 : Nat) : Int) := wrap_small _ (by omega) (by omega)
          have i7 : IntKind.i64.wrap ((k - 7 : Nat) : Int) = ((k - 7 : Nat) : Int) := wrap_small _ (by omega) (by omega)
          have a1 := wrap_add x16 lw
          have a2 := wrap_add (addW x16 lw) x7
          have a3 := wrap_add (addW (addW x16 lw) x7) hi
          rw [hv] at a3
          have kal := fun (o : Obj) (a : Addr) (ha : a.block = g) => alloc_cell (w := w3.drew) hrow.lt o a ha
          replace kal := Lib.hid kal
          replace hnx2 := Lib.hid hnx2
          replace hrow := Lib.hid hrow
          have hlx : ((xorW (xorW (rotr x15 7) (rotr x15 18)) (shrW x15 8)).toNat : Int) = (lw.toNat : Int) := by rw [← hlw]; rfl
          have hhx : ((xorW (xorW (rotr x2 17) (rotr x2 19)) (shrW x2 1024)).toNat : Int) = (hi.toNat : Int) := by rw [← hhi]; rfl
          replace hlw := Lib.hid hlw
          replace hhi := Lib.hid hhi
          replace hv := Lib.hid hv
          first | refine wp_region_noPanic ?_ | skip
          refine wp_region_held_drew (S := (fun W' => W'.cell? ⟨g, k - 16, none⟩ = some (.int .u32 (x16.toNat : Int)) ∧ W'.cell? ⟨g, k - 7, none⟩ = some (.int .u32 (x7.toNat : Int)))) (by kernel_rfl) ?_ (fun hHeld => ?_)
          · exact ⟨hw16, hw7⟩
          refine wpAnyH_take (i := 0) (v := ?_) rfl (by kernel_rfl) (by kernel_rfl) (by kernel_rfl) (fun _ _ _ h => h) (Or.inl ⟨by rfl, ?_⟩) (by assumption) ?_
          rotate_left
          · (intro w hSw; (try dsimp only at hSw); go_simp; try with_reducible rfl)
          try simp only [Array.reduceGetElem, Act.put, List.setIfInBounds_toArray, List.set_cons_zero, List.set_cons_succ]
          refine wpAnyH_take (i := 1) (v := ?_) rfl (by kernel_rfl) (by kernel_rfl) (by kernel_rfl) (fun _ _ _ h => h) (Or.inl ⟨by rfl, ?_⟩) (by assumption) ?_
          rotate_left
          · (intro w hSw; (try dsimp only at hSw); go_simp; try with_reducible rfl)
          try simp only [Array.reduceGetElem, Act.put, List.setIfInBounds_toArray, List.set_cons_zero, List.set_cons_succ]
          refine wpAnyH_take (i := 2) (v := ?_) rfl (by kernel_rfl) (by kernel_rfl) (by kernel_rfl) (fun _ _ _ h => h) (Or.inl ⟨by rfl, ?_⟩) (by assumption) ?_
          rotate_left
          · (intro w hSw; (try dsimp only at hSw); go_simp; try with_reducible rfl)
          try simp only [Array.reduceGetElem, Act.put, List.setIfInBounds_toArray, List.set_cons_zero, List.set_cons_succ]
          refine wpAnyH_take (i := 3) (v := .int .i64 ((k - 16 : Nat) : Int)) rfl (by kernel_rfl) (by kernel_rfl) (by kernel_rfl) (fun _ _ _ h => h) (Or.inl ⟨by rfl, ?_⟩) (by assumption) ?_
          · (intro w hSw; (try dsimp only at hSw); go_simp; first | done | with_reducible rfl | (intro hh; exact absurd (hh (by omega)) (by omega)) | (rw [if_pos (by omega)]; done) | (rw [if_pos (by omega)]; rfl) | (simp only [*]; done) | rfl)
          try simp only [Array.reduceGetElem, Act.put, List.setIfInBounds_toArray, List.set_cons_zero, List.set_cons_succ]
          refine wpAnyH_take (i := 4) (v := .pointer (some ⟨g, k - 16, none⟩)) rfl (by kernel_rfl) (by kernel_rfl) (by kernel_rfl) (fun _ _ _ h => h) (Or.inl ⟨by rfl, ?_⟩) (by assumption) ?_
          · (intro w hSw; (try dsimp only at hSw); go_simp; first | done | with_reducible rfl | (intro hh; exact absurd (hh (by omega)) (by omega)) | (rw [if_pos (by omega)]; done) | (rw [if_pos (by omega)]; rfl) | (simp only [*]; done) | rfl)
          try simp only [Array.reduceGetElem, Act.put, List.setIfInBounds_toArray, List.set_cons_zero, List.set_cons_succ]
          refine wpAnyH_take (i := 5) (v := .int .u32 (x16.toNat : Int)) rfl (by kernel_rfl) (by kernel_rfl) (by kernel_rfl) (fun _ _ _ h => h) (Or.inl ⟨by rfl, ?_⟩) (by assumption) ?_
          · (intro w hSw; (try dsimp only at hSw); go_simp; first | done | with_reducible rfl | (intro hh; exact absurd (hh (by omega)) (by omega)) | (rw [if_pos (by omega)]; done) | (rw [if_pos (by omega)]; rfl) | (simp only [*]; done) | rfl)
          try simp only [Array.reduceGetElem, Act.put, List.setIfInBounds_toArray, List.set_cons_zero, List.set_cons_succ]
          refine wpAnyH_take (i := 6) (v := .int .u32 (lw.toNat : Int)) rfl (by kernel_rfl) (by kernel_rfl) (by kernel_rfl) (fun _ _ _ h => h) (Or.inl ⟨by rfl, ?_⟩) (by assumption) ?_
          · (intro w hSw; (try dsimp only at hSw); go_simp; first | done | with_reducible rfl | (intro hh; exact absurd (hh (by omega)) (by omega)) | (rw [if_pos (by omega)]; done) | (rw [if_pos (by omega)]; rfl) | (simp only [*]; done) | rfl)
          try simp only [Array.reduceGetElem, Act.put, List.setIfInBounds_toArray, List.set_cons_zero, List.set_cons_succ]
          refine wpAnyH_take (i := 7) (v := .int .u32 ((addW x16 lw).toNat : Int)) rfl (by kernel_rfl) (by kernel_rfl) (by kernel_rfl) (fun _ _ _ h => h) (Or.inl ⟨by rfl, ?_⟩) (by assumption) ?_
          · (intro w hSw; (try dsimp only at hSw); go_simp; first | done | with_reducible rfl | (intro hh; exact absurd (hh (by omega)) (by omega)) | (rw [if_pos (by omega)]; done) | (rw [if_pos (by omega)]; rfl) | (simp only [*]; done) | rfl)
          try simp only [Array.reduceGetElem, Act.put, List.setIfInBounds_toArray, List.set_cons_zero, List.set_cons_succ]
          refine wpAnyH_take (i := 8) (v := ?_) rfl (by kernel_rfl) (by kernel_rfl) (by kernel_rfl) (fun _ _ _ h => h) (Or.inl ⟨by rfl, ?_⟩) (by assumption) ?_
          rotate_left
          · (intro w hSw; (try dsimp only at hSw); go_simp; try with_reducible rfl)
          try simp only [Array.reduceGetElem, Act.put, List.setIfInBounds_toArray, List.set_cons_zero, List.set_cons_succ]
          refine wpAnyH_take (i := 9) (v := ?_) rfl (by kernel_rfl) (by kernel_rfl) (by kernel_rfl) (fun _ _ _ h => h) (Or.inl ⟨by rfl, ?_⟩) (by assumption) ?_
          rotate_left
          · (intro w hSw; (try dsimp only at hSw); go_simp; try with_reducible rfl)
          try simp only [Array.reduceGetElem, Act.put, List.setIfInBounds_toArray, List.set_cons_zero, List.set_cons_succ]
          refine wpAnyH_take (i := 10) (v := .int .i64 ((k - 7 : Nat) : Int)) rfl (by kernel_rfl) (by kernel_rfl) (by kernel_rfl) (fun _ _ _ h => h) (Or.inl ⟨by rfl, ?_⟩) (by assumption) ?_
          · (intro w hSw; (try dsimp only at hSw); go_simp; first | done | with_reducible rfl | (intro hh; exact absurd (hh (by omega)) (by omega)) | (rw [if_pos (by omega)]; done) | (rw [if_pos (by omega)]; rfl) | (simp only [*]; done) | rfl)
          try simp only [Array.reduceGetElem, Act.put, List.setIfInBounds_toArray, List.set_cons_zero, List.set_cons_succ]
          refine wpAnyH_take (i := 11) (v := .pointer (some ⟨g, k - 7, none⟩)) rfl (by kernel_rfl) (by kernel_rfl) (by kernel_rfl) (fun _ _ _ h => h) (Or.inl ⟨by rfl, ?_⟩) (by assumption) ?_
          · (intro w hSw; (try dsimp only at hSw); go_simp; first | done | with_reducible rfl | (intro hh; exact absurd (hh (by omega)) (by omega)) | (rw [if_pos (by omega)]; done) | (rw [if_pos (by omega)]; rfl) | (simp only [*]; done) | rfl)
          try simp only [Array.reduceGetElem, Act.put, List.setIfInBounds_toArray, List.set_cons_zero, List.set_cons_succ]
          refine wpAnyH_take (i := 12) (v := .int .u32 (x7.toNat : Int)) rfl (by kernel_rfl) (by kernel_rfl) (by kernel_rfl) (fun _ _ _ h => h) (Or.inl ⟨by rfl, ?_⟩) (by assumption) ?_
          · (intro w hSw; (try dsimp only at hSw); go_simp; first | done | with_reducible rfl | (intro hh; exact absurd (hh (by omega)) (by omega)) | (rw [if_pos (by omega)]; done) | (rw [if_pos (by omega)]; rfl) | (simp only [*]; done) | rfl)
          try simp only [Array.reduceGetElem, Act.put, List.setIfInBounds_toArray, List.set_cons_zero, List.set_cons_succ]
          refine wpAnyH_take (i := 13) (v := .int .u32 ((addW (addW x16 lw) x7).toNat : Int)) rfl (by kernel_rfl) (by kernel_rfl) (by kernel_rfl) (fun _ _ _ h => h) (Or.inl ⟨by rfl, ?_⟩) (by assumption) ?_
          · (intro w hSw; (try dsimp only at hSw); go_simp; first | done | with_reducible rfl | (intro hh; exact absurd (hh (by omega)) (by omega)) | (rw [if_pos (by omega)]; done) | (rw [if_pos (by omega)]; rfl) | (simp only [*]; done) | rfl)
          try simp only [Array.reduceGetElem, Act.put, List.setIfInBounds_toArray, List.set_cons_zero, List.set_cons_succ]
          refine wpAnyH_take (i := 14) (v := .int .u32 (hi.toNat : Int)) rfl (by kernel_rfl) (by kernel_rfl) (by kernel_rfl) (fun _ _ _ h => h) (Or.inl ⟨by rfl, ?_⟩) (by assumption) ?_
          · (intro w hSw; (try dsimp only at hSw); go_simp; first | done | with_reducible rfl | (intro hh; exact absurd (hh (by omega)) (by omega)) | (rw [if_pos (by omega)]; done) | (rw [if_pos (by omega)]; rfl) | (simp only [*]; done) | rfl)
          try simp only [Array.reduceGetElem, Act.put, List.setIfInBounds_toArray, List.set_cons_zero, List.set_cons_succ]
          refine wpAnyH_take (i := 15) (v := .int .u32 (v.toNat : Int)) rfl (by kernel_rfl) (by kernel_rfl) (by kernel_rfl) (fun _ _ _ h => h) (Or.inl ⟨by rfl, ?_⟩) (by assumption) ?_
          · (intro w hSw; (try dsimp only at hSw); go_simp; first | done | with_reducible rfl | (intro hh; exact absurd (hh (by omega)) (by omega)) | (rw [if_pos (by omega)]; done) | (rw [if_pos (by omega)]; rfl) | (simp only [*]; done) | rfl)
          try simp only [Array.reduceGetElem, Act.put, List.setIfInBounds_toArray, List.set_cons_zero, List.set_cons_succ]
          refine wpAnyH_ready (rs := [16]) (by kernel_rfl) (by simp) ?_
          refine AllReadyH.cons rfl (fun K hK => ?_) AllReadyH.nil
          go_simp
          refine hK.out _ _ ?_ (fun hHeld => ?_)
          · (try dsimp only); first | exact ⟨hw16, hw7⟩ | exact ⟨(kal.out _ _ rfl).trans hw16, (kal.out _ _ rfl).trans hw7⟩
          clear hK K
          try simp only [Array.reduceGetElem, Act.put, List.setIfInBounds_toArray, List.set_cons_zero, List.set_cons_succ]
          refine wpAnyH_push1 17 (by kernel_rfl) rfl rfl _ _ 34 rfl _ 27 i0 (.int .u32 0) 4 Tryd.underlying34 hi0 hz0 hz1 hz2 rfl w.heap.size _ _ _ (RowV.drew hrow.out) _ (by rw [List.length_map]; exact hkl.out.symm) rfl 1 1 [.int .u32 (v.toNat : Int)] _ rfl rfl rfl ?h1_b ?h63_b ?hb_b ?hlo_b ?hS_b ?hk_b
          case h1_b => intro u hu; simp only [List.mem_singleton] at hu; subst hu; rfl
          case h63_b => rw [List.length_map, hkl.out]; simp only [List.length_singleton]; omega
          case hb_b => decide
          case hlo_b => exact hC.size
          case hS_b =>
            intro w9 _ hc9
            exact ⟨(hc9 (k - 16) (by rw [List.length_map, hkl.out]; omega)).trans hw16, (hc9 (k - 7) (by rw [List.length_map, hkl.out]; omega)).trans hw7⟩
          intro g2 cap2 w2 hrow2 hB2 hHeld9
          have hC2 := hC.drew.trans (hB2 w.heap.size (Nat.le_refl _) hC.size)
          rw [List.length_map, hkl.out]
          try simp only [Array.reduceGetElem, Act.put, List.setIfInBounds_toArray, List.set_cons_zero, List.set_cons_succ]
          refine wpAnyH_take (i := 18) (v := ?_) rfl (by kernel_rfl) (by kernel_rfl) (by kernel_rfl) (fun _ _ _ h => h) (Or.inl ⟨by rfl, ?_⟩) (by assumption) ?_
          rotate_left
          · (intro w hSw; (try dsimp only at hSw); go_simp; try with_reducible rfl)
          try simp only [Array.reduceGetElem, Act.put, List.setIfInBounds_toArray, List.set_cons_zero, List.set_cons_succ]
          refine wpAnyH_done (by kernel_rfl) ?_ _
          replace hrow2 : RowV w2 27 w.heap.size g2 cap2 ((wsAt b (k + 1)).map wV) := by rw [hnx2.out, List.map_append]; exact hrow2
          replace hrow2 := Lib.hid hrow2
          clear hrow hC hw16 hw7 hHeld9 hB2
          go_wp2
          go_round
          case rel => exact ⟨k + 1, g2, cap2, by omega, by omega, by go_num, rfl, hrow2, hC2⟩
          case measure => simp [intOf]; omega
        · obtain rfl : k = 64 := by omega
          have hkl : ((wsAt b 64).map wV).length = 64 := by rw [List.length_map, wsAt_len]
          replace hkl := Lib.hid hkl
          go_wp2
          go_ret
          exact ⟨g, cap, by rw [hkl.out]; rfl, hrow.out, hC⟩

end Go.Proofs.YtcgnoohllfbmcaaDoor
